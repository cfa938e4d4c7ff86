import Derived.Test.YtdpbbagllhfjbaaDoorAIGoctB
import Derived.Test.YtdpbbagllhfjbaaDoorAIGputA
namespace Go.Proofs.YtdpbbagllhfjbaaDoorW.AI.G
open Go Go.Proofs.YtdpbbagllhfjbaaDoorW.AI Go.Proofs.YtdpbbagllhfjbaaDoorW.AI.Oct
set_option maxRecDepth 100000
set_option linter.unusedSimpArgs false
set_option linter.unusedVariables false
set_option linter.unusedSectionVars false
theorem be_one {D : List Int} {k : Nat} {d : Int} (h : D[k]? = some d) : be ((D.drop k).take 1) = d := by
  have : (D.drop k).take 1 = [d] := by
    rw [List.take_one, List.head?_drop, h]; rfl
  rw [this]; simp [be]
end Go.Proofs.YtdpbbagllhfjbaaDoorW.AI.G
namespace Go.Proofs.YtdpbbagllhfjbaaDoorW.AI.G
open Go Go.Proofs.YtdpbbagllhfjbaaDoorW.AI Go.Proofs.YtdpbbagllhfjbaaDoorW.AI.Oct
set_option maxRecDepth 100000
set_option linter.unusedSimpArgs false
set_option linter.unusedVariables false
set_option linter.unusedSectionVars false
/-- The numbers of a head's bytes. -/
structure HV (D : List Int) (v0 v1 v2 v3 v4 v5 v6 v7 v8 v9 v10 : Int) : Prop where
  B : Byt D
  l : 48 ≤ D.length
  e0 : be ((D.drop 0).take 1) = v0
  e1 : be ((D.drop 1).take 1) = v1
  e2 : be ((D.drop 2).take 1) = v2
  e3 : be ((D.drop 3).take 1) = v3
  e4 : be ((D.drop 4).take 4) = v4
  e5 : be ((D.drop 8).take 4) = v5
  e6 : be ((D.drop 12).take 4) = v6
  e7 : be ((D.drop 16).take 8) = v7
  e8 : be ((D.drop 24).take 8) = v8
  e9 : be ((D.drop 32).take 8) = v9
  e10 : be ((D.drop 40).take 8) = v10
theorem HV.mk' {D : List Int} (hB : Byt D) (hl : 48 ≤ D.length) : ∃ v0 v1 v2 v3 v4 v5 v6 v7 v8 v9 v10, HV D v0 v1 v2 v3 v4 v5 v6 v7 v8 v9 v10 := ⟨_, _, _, _, _, _, _, _, _, _, _, hB, hl, rfl, rfl, rfl, rfl, rfl, rfl, rfl, rfl, rfl, rfl, rfl⟩
theorem HV.takeV {D : List Int} {v0 v1 v2 v3 v4 v5 v6 v7 v8 v9 v10 : Int} (hv : HV D v0 v1 v2 v3 v4 v5 v6 v7 v8 v9 v10) : takeV sizesN D = [v0, v1, v2, v3, v4, v5, v6, v7, v8, v9, v10] := by
  have h := hv
  obtain ⟨_, _, e0, e1, e2, e3, e4, e5, e6, e7, e8, e9, e10⟩ := h
  simp only [List.drop_zero] at e0
  simp only [sizesN, Go.Proofs.YtdpbbagllhfjbaaDoorW.AI.G.takeV, List.drop_drop, Nat.reduceAdd, e0, e1, e2, e3, e4, e5, e6, e7, e8, e9, e10]
theorem be_sub {D : List Int} (hB : Byt D) (hl : 48 ≤ D.length) (a s : Nat) (ha : a + s ≤ 48) {v : Int} (e : be ((D.drop a).take s) = v) : 0 ≤ v ∧ v < 256 ^ s := by
  have := be_bound (hB.sub a s)
  rw [e, List.length_take, List.length_drop, Nat.min_eq_left (by omega)] at this
  exact this
theorem HV.bounds {D : List Int} {v0 v1 v2 v3 v4 v5 v6 v7 v8 v9 v10 : Int} (hv : HV D v0 v1 v2 v3 v4 v5 v6 v7 v8 v9 v10) : (0 ≤ v0 ∧ v0 < 256) ∧ (0 ≤ v1 ∧ v1 < 256) ∧ (0 ≤ v2 ∧ v2 < 256) ∧ (0 ≤ v3 ∧ v3 < 256) ∧ (0 ≤ v4 ∧ v4 < 4294967296) ∧ (0 ≤ v5 ∧ v5 < 4294967296) ∧ (0 ≤ v6 ∧ v6 < 4294967296) ∧ (0 ≤ v7 ∧ v7 < 18446744073709551616) ∧ (0 ≤ v8 ∧ v8 < 18446744073709551616) ∧ (0 ≤ v9 ∧ v9 < 18446744073709551616) ∧ (0 ≤ v10 ∧ v10 < 18446744073709551616) := by
  refine ⟨by simpa using be_sub hv.B hv.l 0 1 (by omega) hv.e0, by simpa using be_sub hv.B hv.l 1 1 (by omega) hv.e1, by simpa using be_sub hv.B hv.l 2 1 (by omega) hv.e2, by simpa using be_sub hv.B hv.l 3 1 (by omega) hv.e3, by simpa using be_sub hv.B hv.l 4 4 (by omega) hv.e4, by simpa using be_sub hv.B hv.l 8 4 (by omega) hv.e5, by simpa using be_sub hv.B hv.l 12 4 (by omega) hv.e6, by simpa using be_sub hv.B hv.l 16 8 (by omega) hv.e7, by simpa using be_sub hv.B hv.l 24 8 (by omega) hv.e8, by simpa using be_sub hv.B hv.l 32 8 (by omega) hv.e9, by simpa using be_sub hv.B hv.l 40 8 (by omega) hv.e10⟩
theorem HV.at {D : List Int} {v0 v1 v2 v3 v4 v5 v6 v7 v8 v9 v10 : Int} (hv : HV D v0 v1 v2 v3 v4 v5 v6 v7 v8 v9 v10) : D[0]? = some v0 ∧ D[1]? = some v1 ∧ D[2]? = some v2 ∧ D[3]? = some v3 := by
  have h := hv.l
  refine ⟨?_, ?_, ?_, ?_⟩
  · rw [← hv.e0, be_one (List.getElem?_eq_getElem (by omega))]; exact List.getElem?_eq_getElem (by omega)
  · rw [← hv.e1, be_one (List.getElem?_eq_getElem (by omega))]; exact List.getElem?_eq_getElem (by omega)
  · rw [← hv.e2, be_one (List.getElem?_eq_getElem (by omega))]; exact List.getElem?_eq_getElem (by omega)
  · rw [← hv.e3, be_one (List.getElem?_eq_getElem (by omega))]; exact List.getElem?_eq_getElem (by omega)
theorem and7 {x : Int} (h0 : 0 ≤ x) (h1 : x < 18446744073709551616) : abits .and .u64 x 7 = x % 8 := by
  obtain ⟨n, rfl⟩ : ∃ n : Nat, x = (n : Int) := ⟨x.toNat, by omega⟩
  have hn : n < 18446744073709551616 := by omega
  have e3 : (BitVec.ofInt 64 (n : Int) &&& BitVec.ofInt 64 7).toNat = n % 8 := by
    rw [BitVec.toNat_and, BitVec.ofInt_natCast, show (BitVec.ofInt 64 7) = BitVec.ofNat 64 7 from rfl, BitVec.toNat_ofNat, BitVec.toNat_ofNat, Nat.mod_eq_of_lt (by omega), Nat.mod_eq_of_lt (by omega)]
    exact Nat.and_two_pow_sub_one_eq_mod n 3
  show IntKind.u64.wrap (((BitVec.ofInt 64 (n : Int) &&& BitVec.ofInt 64 7).toNat : Nat) : Int) = _
  rw [e3, wr_u64 _ (by omega) (by omega)]
  omega
theorem behind_set (h : AHeap) (z b : ABlk) (ks : AHeap) : (h ++ z :: ks).set h.length b = h ++ b :: ks := by
  rw [List.set_append_right _ _ (Nat.le_refl _), Nat.sub_self, List.set_cons_zero]
theorem behind_get (h : AHeap) (z : ABlk) (ks : AHeap) : (h ++ z :: ks)[h.length]? = some z := by
  rw [List.getElem?_append_right (Nat.le_refl _), Nat.sub_self, List.getElem?_cons_zero]
set_option maxHeartbeats 4000000 in
theorem parse_ok {h : AHeap} {x : AV} {D : List Int} {v0 v1 v2 v3 v4 v5 v6 v7 v8 v9 v10 : Int} (hg : Good h) (h0 : h[1]? = some ⟨.ext, .ints .i64 sizesL⟩) (hx : Src h x D) (hv : HV D v0 v1 v2 v3 v4 v5 v6 v7 v8 v9 v10) (hD : D.length < 1000000000) (c1 : 1 ≤ v0 / 8 % 8) (c2 : v0 / 8 % 8 ≤ 4) :
    ∃ rv js r, W CP 37 [x] h = some (.tup [.agg [.int .u8 (v0 / 64), .int .u8 (v0 / 8 % 8), .int .u8 (v0 % 8), .int .u8 v1, .int .i8 (IntKind.i8.wrap v2), .int .i8 (IntKind.i8.wrap v3), .int .u32 v4, .int .u32 v5, .int .u32 v6, .int .u64 v7, .int .u64 v8, .int .u64 v9, .int .u64 v10, .nils, .bool false, .int .u32 0, .int .u64 0], rv, .int .i64 0], h ++ js, []) ∧ RowAt (h ++ js) rv (D.drop 48) ∧ Good (h ++ js) ∧ blkS rv = some r ∧ h.length ≤ r := by
  have hgt := hv.bounds
  obtain ⟨⟨p0, q0⟩, ⟨p1, q1⟩, ⟨p2, q2⟩, ⟨p3, q3⟩, ⟨p4, q4⟩, ⟨p5, q5⟩, ⟨p6, q6⟩, ⟨p7, q7⟩, ⟨p8, q8⟩, ⟨p9, q9⟩, ⟨p10, q10⟩⟩ := hgt
  have f0 : Int.fdiv v0 64 = v0 / 64 := Int.fdiv_eq_ediv_of_nonneg _ (by omega)
  have f1 : Int.fdiv v0 8 = v0 / 8 := Int.fdiv_eq_ediv_of_nonneg _ (by omega)
  have f2 : abits .and .u64 (v0 / 8) 7 = v0 / 8 % 8 := and7 (by omega) (by omega)
  have f3 : abits .and .u64 v0 7 = v0 % 8 := and7 (by omega) (by omega)
  have g0 : IntKind.u8.wrap (v0 / 64) = v0 / 64 := wr_u8 _ (by omega) (by omega)
  have g1 : IntKind.u8.wrap (v0 / 8 % 8) = v0 / 8 % 8 := wr_u8 _ (by omega) (by omega)
  have g2 : IntKind.u8.wrap (v0 % 8) = v0 % 8 := wr_u8 _ (by omega) (by omega)
  have g3 : IntKind.u8.wrap v1 = v1 := wr_u8 _ (by omega) (by omega)
  have g4 : IntKind.u32.wrap v4 = v4 := wr_u32 _ (by omega) (by omega)
  have g5 : IntKind.u32.wrap v5 = v5 := wr_u32 _ (by omega) (by omega)
  have g6 : IntKind.u32.wrap v6 = v6 := wr_u32 _ (by omega) (by omega)
  have hx1 := hx.app [⟨.tip false, .vals [.int .u8 0, .int .u8 0, .int .u8 0, .int .u8 0, .int .i8 0, .int .i8 0, .int .u32 0, .int .u32 0, .int .u32 0, .int .u64 0, .int .u64 0, .int .u64 0, .int .u64 0, .nils, .bool false, .int .u32 0, .int .u64 0]⟩]
  have hG0 : Good (h ++ [⟨.tip false, .vals [.int .u8 0, .int .u8 0, .int .u8 0, .int .u8 0, .int .i8 0, .int .i8 0, .int .u32 0, .int .u32 0, .int .u32 0, .int .u64 0, .int .u64 0, .int .u64 0, .int .u64 0, .nils, .bool false, .int .u32 0, .int .u64 0]⟩]) := good_app hg rfl
  have hS : SzAt (h ++ [⟨.tip false, .vals [.int .u8 0, .int .u8 0, .int .u8 0, .int .u8 0, .int .i8 0, .int .i8 0, .int .u32 0, .int .u32 0, .int .u32 0, .int .u64 0, .int .u64 0, .int .u64 0, .int .u64 0, .nils, .bool false, .int .u32 0, .int .u64 0]⟩]) 1 (szI sizesN) := SzAt.app ⟨Or.inl h0, by decide⟩ _
  obtain ⟨lv, rv, js, p, r, eT, tN, tR, tG, tp, tpl, tr, tpr⟩ := take_ok (cS := 11) hG0 hS hx1 (by decide) (by decide) (by have := hv.l; simpa [sizesN] using this) hD (by decide)
  rw [hv.takeV] at tN
  have hsum : sizesN.sum = 48 := rfl
  have hlenS : sizesN.length = 11 := rfl
  rw [hsum] at tR
  rw [hlenS] at eT
  obtain ⟨pp, mn, oo, rfl, tb⟩ : ∃ pp mn oo, lv = .gsl pp 0 11 1 mn ∧ ((h ++ [(⟨.tip false, .vals [.int .u8 0, .int .u8 0, .int .u8 0, .int .u8 0, .int .i8 0, .int .i8 0, .int .u32 0, .int .u32 0, .int .u32 0, .int .u64 0, .int .u64 0, .int .u64 0, .int .u64 0, .nils, .bool false, .int .u32 0, .int .u64 0]⟩ : ABlk)]) ++ js)[pp]? = some ⟨.tip oo, .ints .u64 [v0, v1, v2, v3, v4, v5, v6, v7, v8, v9, v10]⟩ := by
    rcases tN with ⟨rfl, _⟩ | ⟨pp, mn, oo, rfl, e⟩
    · cases tp
    · exact ⟨pp, mn, oo, rfl, e⟩
  obtain ⟨H1, hH1⟩ : ∃ H1, (h ++ [(⟨.tip false, .vals [.int .u8 0, .int .u8 0, .int .u8 0, .int .u8 0, .int .i8 0, .int .i8 0, .int .u32 0, .int .u32 0, .int .u32 0, .int .u64 0, .int .u64 0, .int .u64 0, .int .u64 0, .nils, .bool false, .int .u32 0, .int .u64 0]⟩ : ABlk)]) ++ js = H1 := ⟨_, rfl⟩
  have k0 : H1[h.length]? = some ⟨.tip false, .vals [.int .u8 0, .int .u8 0, .int .u8 0, .int .u8 0, .int .i8 0, .int .i8 0, .int .u32 0, .int .u32 0, .int .u32 0, .int .u64 0, .int .u64 0, .int .u64 0, .int .u64 0, .nils, .bool false, .int .u32 0, .int .u64 0]⟩ := by rw [← hH1, List.append_assoc]; exact behind_get _ _ _
  have k1 : h.length < H1.length := (List.getElem?_eq_some_iff.1 k0).1
  have k3 : ¬ H1.length < h.length := by omega
  rw [hH1] at eT tR tG tb
  have k2 := (List.getElem?_eq_some_iff.1 tb).1
  have hlx : ¬ (D.length : Int) < 48 := by have := hv.l; omega
  have eM := may_c (p0 := v0 / 64) (p1 := v0 / 8 % 8) (p2 := v0 % 8) (p3 := v1) (p4 := IntKind.i8.wrap v2) (p5 := IntKind.i8.wrap v3) (p6 := v4) (p7 := v5) (p8 := v6) (p9 := v7) (p10 := v8) (p11 := v9) (p12 := v10) (p15 := 0) (p16 := 0) (s := false) (x := .nils) rfl (h := H1 ++ [⟨.tip false, .vals [.int .u8 (v0 / 64), .int .u8 (v0 / 8 % 8), .int .u8 (v0 % 8), .int .u8 v1, .int .i8 (IntKind.i8.wrap v2), .int .i8 (IntKind.i8.wrap v3), .int .u32 v4, .int .u32 v5, .int .u32 v6, .int .u64 v7, .int .u64 v8, .int .u64 v9, .int .u64 v10, .nils, .bool false, .int .u32 0, .int .u64 0]⟩]) (good_app tG rfl)
  have hmay : mayH (v0 / 64) (v0 / 8 % 8) (v0 % 8) = true := by
    have m1 : v0 / 64 ≤ 3 := by omega
    have m2 : v0 % 8 ≤ 7 := by omega
    simp only [mayH, m1, m2, decide_true, Bool.true_and, Bool.and_true]
    simp [c1, c2]
  rw [hmay] at eM

  have tR2 := (tR.app [⟨.tip false, .vals [.int .u8 (v0 / 64), .int .u8 (v0 / 8 % 8), .int .u8 (v0 % 8), .int .u8 v1, .int .i8 (IntKind.i8.wrap v2), .int .i8 (IntKind.i8.wrap v3), .int .u32 v4, .int .u32 v5, .int .u32 v6, .int .u64 v7, .int .u64 v8, .int .u64 v9, .int .u64 v10, .nils, .bool false, .int .u32 0, .int .u64 0]⟩]).src (fun z hz => hv.B z (List.mem_of_mem_drop hz))
  obtain ⟨rw', ks, eC, cR, ⟨r', cr, cl⟩, cn⟩ := clone_c (good_app (js := [⟨.tip false, .vals [.int .u8 (v0 / 64), .int .u8 (v0 / 8 % 8), .int .u8 (v0 % 8), .int .u8 v1, .int .i8 (IntKind.i8.wrap v2), .int .i8 (IntKind.i8.wrap v3), .int .u32 v4, .int .u32 v5, .int .u32 v6, .int .u64 v7, .int .u64 v8, .int .u64 v9, .int .u64 v10, .nils, .bool false, .int .u32 0, .int .u64 0]⟩]) tG rfl) tR2 (by rw [List.length_drop]; omega)
  obtain ⟨H2, hH2⟩ : ∃ H2, (H1 ++ [(⟨.tip false, .vals [.int .u8 (v0 / 64), .int .u8 (v0 / 8 % 8), .int .u8 (v0 % 8), .int .u8 v1, .int .i8 (IntKind.i8.wrap v2), .int .i8 (IntKind.i8.wrap v3), .int .u32 v4, .int .u32 v5, .int .u32 v6, .int .u64 v7, .int .u64 v8, .int .u64 v9, .int .u64 v10, .nils, .bool false, .int .u32 0, .int .u64 0]⟩ : ABlk)]) ++ ks = H2 := ⟨_, rfl⟩
  have n0 : H2[h.length]? = some ⟨.tip false, .vals [.int .u8 0, .int .u8 0, .int .u8 0, .int .u8 0, .int .i8 0, .int .i8 0, .int .u32 0, .int .u32 0, .int .u32 0, .int .u64 0, .int .u64 0, .int .u64 0, .int .u64 0, .nils, .bool false, .int .u32 0, .int .u64 0]⟩ := by rw [← hH2, List.append_assoc, List.getElem?_append_left k1]; exact k0
  have n1 : h.length < H2.length := (List.getElem?_eq_some_iff.1 n0).1
  have n2 : H2[H1.length]? = some ⟨.tip false, .vals [.int .u8 (v0 / 64), .int .u8 (v0 / 8 % 8), .int .u8 (v0 % 8), .int .u8 v1, .int .i8 (IntKind.i8.wrap v2), .int .i8 (IntKind.i8.wrap v3), .int .u32 v4, .int .u32 v5, .int .u32 v6, .int .u64 v7, .int .u64 v8, .int .u64 v9, .int .u64 v10, .nils, .bool false, .int .u32 0, .int .u64 0]⟩ := by rw [← hH2, List.append_assoc]; exact behind_get _ _ _
  have n3 : ¬ H1.length + 1 ≤ H1.length := by omega
  rw [hH2] at eC cR
  have hnr : noAny (some rw') = some rw' := by
    obtain ⟨_, _, ⟨rfl, _⟩ | rfl⟩ := cR <;> rfl
  have hnr0 : noAny (some rv) = some rv := by
    obtain ⟨_, _, ⟨rfl, _⟩ | rfl⟩ := tR <;> rfl
  have hcl : rw'.lt h.length = false := by
    obtain ⟨_, _, ⟨rfl, _⟩ | rfl⟩ := cR <;> (simp only [blkS, Option.some.injEq] at cr; simp only [List.length_append, List.length_cons, List.length_nil] at cl; simp [AV.lt]; omega)
  have key : xbody (W CP) M37 [x] h = some (.tup [.agg [.int .u8 (v0 / 64), .int .u8 (v0 / 8 % 8), .int .u8 (v0 % 8), .int .u8 v1, .int .i8 (IntKind.i8.wrap v2), .int .i8 (IntKind.i8.wrap v3), .int .u32 v4, .int .u32 v5, .int .u32 v6, .int .u64 v7, .int .u64 v8, .int .u64 v9, .int .u64 v10, .nils, .bool false, .int .u32 0, .int .u64 0], rw', .int .i64 0], H2.set h.length ⟨.tip false, .vals [.int .u8 (v0 / 64), .int .u8 (v0 / 8 % 8), .int .u8 (v0 % 8), .int .u8 v1, .int .i8 (IntKind.i8.wrap v2), .int .i8 (IntKind.i8.wrap v3), .int .u32 v4, .int .u32 v5, .int .u32 v6, .int .u64 v7, .int .u64 v8, .int .u64 v9, .int .u64 v10, .nils, .bool false, .int .u32 0, .int .u64 0]⟩, []) := by
    have hnx := na_slen hx.len
    have hlen := hx.len
    simp (maxDischargeDepth := 9) -implicitDefEqProofs only [push_cast, simprocAttr, M37, nadd1, nadd2, nadd3, nadd4, nadd5, nadd6, nadd7, nadd8, nadd9, nadd10, nadd11, nadd12, hnx, hlen, hlx, eT, tb, k0, k1, k2, k3, f0, f1, f2, f3, g0, g1, g2, g3, g4, g5, g6, eM, eC, hnr, hnr0, n0, n1, n2, n3]
  have hx0 : AV.lts 0 [x] = false := by
    obtain ⟨_, b, o, c, st, l, _, _, _, _, ⟨rfl, _⟩ | rfl⟩ := hx <;> simp [AV.lts, AV.lt]
  have hjs : H2.set h.length ⟨.tip false, .vals [.int .u8 (v0 / 64), .int .u8 (v0 / 8 % 8), .int .u8 (v0 % 8), .int .u8 v1, .int .i8 (IntKind.i8.wrap v2), .int .i8 (IntKind.i8.wrap v3), .int .u32 v4, .int .u32 v5, .int .u32 v6, .int .u64 v7, .int .u64 v8, .int .u64 v9, .int .u64 v10, .nils, .bool false, .int .u32 0, .int .u64 0]⟩ = h ++ (⟨.tip false, .vals [.int .u8 (v0 / 64), .int .u8 (v0 / 8 % 8), .int .u8 (v0 % 8), .int .u8 v1, .int .i8 (IntKind.i8.wrap v2), .int .i8 (IntKind.i8.wrap v3), .int .u32 v4, .int .u32 v5, .int .u32 v6, .int .u64 v7, .int .u64 v8, .int .u64 v9, .int .u64 v10, .nils, .bool false, .int .u32 0, .int .u64 0]⟩ :: (js ++ ⟨.tip false, .vals [.int .u8 (v0 / 64), .int .u8 (v0 / 8 % 8), .int .u8 (v0 % 8), .int .u8 v1, .int .i8 (IntKind.i8.wrap v2), .int .i8 (IntKind.i8.wrap v3), .int .u32 v4, .int .u32 v5, .int .u32 v6, .int .u64 v7, .int .u64 v8, .int .u64 v9, .int .u64 v10, .nils, .bool false, .int .u32 0, .int .u64 0]⟩ :: ks)) := by
    rw [← hH2, ← hH1]
    simp only [List.append_assoc, List.cons_append, List.nil_append]
    rw [behind_set]
  refine ⟨rw', ⟨.tip false, .vals [.int .u8 (v0 / 64), .int .u8 (v0 / 8 % 8), .int .u8 (v0 % 8), .int .u8 v1, .int .i8 (IntKind.i8.wrap v2), .int .i8 (IntKind.i8.wrap v3), .int .u32 v4, .int .u32 v5, .int .u32 v6, .int .u64 v7, .int .u64 v8, .int .u64 v9, .int .u64 v10, .nils, .bool false, .int .u32 0, .int .u64 0]⟩ :: (js ++ ⟨.tip false, .vals [.int .u8 (v0 / 64), .int .u8 (v0 / 8 % 8), .int .u8 (v0 % 8), .int .u8 v1, .int .i8 (IntKind.i8.wrap v2), .int .i8 (IntKind.i8.wrap v3), .int .u32 v4, .int .u32 v5, .int .u32 v6, .int .u64 v7, .int .u64 v8, .int .u64 v9, .int .u64 v10, .nils, .bool false, .int .u32 0, .int .u64 0]⟩ :: ks), r', ?_, ?_, ?_, cr, by simp only [List.length_append, List.length_cons, List.length_nil] at cl; omega⟩
  · rw [W_body (m := M37) rfl rfl hx0 key, show (M37).trim = true from rfl, if_pos rfl, trim_addr (by simp [AV.lt, AV.lts, hcl]), hjs]
  · rw [← hjs]
    obtain ⟨z, hz, hk⟩ := cR
    refine ⟨z, ?_, hk⟩
    have hzh : h.length ≠ z := by
      rintro rfl
      rw [n0] at hz; cases hz
    rw [List.getElem?_set_ne hzh]; exact hz
  · rw [← hjs, ← hH2]; exact good_set (good_app (good_app tG rfl) cn) rfl
set_option maxHeartbeats 4000000 in
theorem parse_bad {h : AHeap} {x : AV} {D : List Int} {v0 v1 v2 v3 v4 v5 v6 v7 v8 v9 v10 : Int} (hg : Good h) (h0 : h[1]? = some ⟨.ext, .ints .i64 sizesL⟩) (hx : Src h x D) (hv : HV D v0 v1 v2 v3 v4 v5 v6 v7 v8 v9 v10) (hD : D.length < 1000000000) (c : ¬ (1 ≤ v0 / 8 % 8 ∧ v0 / 8 % 8 ≤ 4)) : W CP 37 [x] h = some (.tup [.agg [.int .u8 0, .int .u8 0, .int .u8 0, .int .u8 0, .int .i8 0, .int .i8 0, .int .u32 0, .int .u32 0, .int .u32 0, .int .u64 0, .int .u64 0, .int .u64 0, .int .u64 0, .nils, .bool false, .int .u32 0, .int .u64 0], .nils, .int .i64 5], h, []) := by
  have hgt := hv.bounds
  obtain ⟨⟨p0, q0⟩, ⟨p1, q1⟩, ⟨p2, q2⟩, ⟨p3, q3⟩, ⟨p4, q4⟩, ⟨p5, q5⟩, ⟨p6, q6⟩, ⟨p7, q7⟩, ⟨p8, q8⟩, ⟨p9, q9⟩, ⟨p10, q10⟩⟩ := hgt
  have f0 : Int.fdiv v0 64 = v0 / 64 := Int.fdiv_eq_ediv_of_nonneg _ (by omega)
  have f1 : Int.fdiv v0 8 = v0 / 8 := Int.fdiv_eq_ediv_of_nonneg _ (by omega)
  have f2 : abits .and .u64 (v0 / 8) 7 = v0 / 8 % 8 := and7 (by omega) (by omega)
  have f3 : abits .and .u64 v0 7 = v0 % 8 := and7 (by omega) (by omega)
  have g0 : IntKind.u8.wrap (v0 / 64) = v0 / 64 := wr_u8 _ (by omega) (by omega)
  have g1 : IntKind.u8.wrap (v0 / 8 % 8) = v0 / 8 % 8 := wr_u8 _ (by omega) (by omega)
  have g2 : IntKind.u8.wrap (v0 % 8) = v0 % 8 := wr_u8 _ (by omega) (by omega)
  have g3 : IntKind.u8.wrap v1 = v1 := wr_u8 _ (by omega) (by omega)
  have g4 : IntKind.u32.wrap v4 = v4 := wr_u32 _ (by omega) (by omega)
  have g5 : IntKind.u32.wrap v5 = v5 := wr_u32 _ (by omega) (by omega)
  have g6 : IntKind.u32.wrap v6 = v6 := wr_u32 _ (by omega) (by omega)
  have hx1 := hx.app [⟨.tip false, .vals [.int .u8 0, .int .u8 0, .int .u8 0, .int .u8 0, .int .i8 0, .int .i8 0, .int .u32 0, .int .u32 0, .int .u32 0, .int .u64 0, .int .u64 0, .int .u64 0, .int .u64 0, .nils, .bool false, .int .u32 0, .int .u64 0]⟩]
  have hG0 : Good (h ++ [⟨.tip false, .vals [.int .u8 0, .int .u8 0, .int .u8 0, .int .u8 0, .int .i8 0, .int .i8 0, .int .u32 0, .int .u32 0, .int .u32 0, .int .u64 0, .int .u64 0, .int .u64 0, .int .u64 0, .nils, .bool false, .int .u32 0, .int .u64 0]⟩]) := good_app hg rfl
  have hS : SzAt (h ++ [⟨.tip false, .vals [.int .u8 0, .int .u8 0, .int .u8 0, .int .u8 0, .int .i8 0, .int .i8 0, .int .u32 0, .int .u32 0, .int .u32 0, .int .u64 0, .int .u64 0, .int .u64 0, .int .u64 0, .nils, .bool false, .int .u32 0, .int .u64 0]⟩]) 1 (szI sizesN) := SzAt.app ⟨Or.inl h0, by decide⟩ _
  obtain ⟨lv, rv, js, p, r, eT, tN, tR, tG, tp, tpl, tr, tpr⟩ := take_ok (cS := 11) hG0 hS hx1 (by decide) (by decide) (by have := hv.l; simpa [sizesN] using this) hD (by decide)
  rw [hv.takeV] at tN
  have hsum : sizesN.sum = 48 := rfl
  have hlenS : sizesN.length = 11 := rfl
  rw [hsum] at tR
  rw [hlenS] at eT
  obtain ⟨pp, mn, oo, rfl, tb⟩ : ∃ pp mn oo, lv = .gsl pp 0 11 1 mn ∧ ((h ++ [(⟨.tip false, .vals [.int .u8 0, .int .u8 0, .int .u8 0, .int .u8 0, .int .i8 0, .int .i8 0, .int .u32 0, .int .u32 0, .int .u32 0, .int .u64 0, .int .u64 0, .int .u64 0, .int .u64 0, .nils, .bool false, .int .u32 0, .int .u64 0]⟩ : ABlk)]) ++ js)[pp]? = some ⟨.tip oo, .ints .u64 [v0, v1, v2, v3, v4, v5, v6, v7, v8, v9, v10]⟩ := by
    rcases tN with ⟨rfl, _⟩ | ⟨pp, mn, oo, rfl, e⟩
    · cases tp
    · exact ⟨pp, mn, oo, rfl, e⟩
  obtain ⟨H1, hH1⟩ : ∃ H1, (h ++ [(⟨.tip false, .vals [.int .u8 0, .int .u8 0, .int .u8 0, .int .u8 0, .int .i8 0, .int .i8 0, .int .u32 0, .int .u32 0, .int .u32 0, .int .u64 0, .int .u64 0, .int .u64 0, .int .u64 0, .nils, .bool false, .int .u32 0, .int .u64 0]⟩ : ABlk)]) ++ js = H1 := ⟨_, rfl⟩
  have k0 : H1[h.length]? = some ⟨.tip false, .vals [.int .u8 0, .int .u8 0, .int .u8 0, .int .u8 0, .int .i8 0, .int .i8 0, .int .u32 0, .int .u32 0, .int .u32 0, .int .u64 0, .int .u64 0, .int .u64 0, .int .u64 0, .nils, .bool false, .int .u32 0, .int .u64 0]⟩ := by rw [← hH1, List.append_assoc]; exact behind_get _ _ _
  have k1 : h.length < H1.length := (List.getElem?_eq_some_iff.1 k0).1
  have k3 : ¬ H1.length < h.length := by omega
  rw [hH1] at eT tR tG tb
  have k2 := (List.getElem?_eq_some_iff.1 tb).1
  have hlx : ¬ (D.length : Int) < 48 := by have := hv.l; omega
  have eM := may_c (p0 := v0 / 64) (p1 := v0 / 8 % 8) (p2 := v0 % 8) (p3 := v1) (p4 := IntKind.i8.wrap v2) (p5 := IntKind.i8.wrap v3) (p6 := v4) (p7 := v5) (p8 := v6) (p9 := v7) (p10 := v8) (p11 := v9) (p12 := v10) (p15 := 0) (p16 := 0) (s := false) (x := .nils) rfl (h := H1 ++ [⟨.tip false, .vals [.int .u8 (v0 / 64), .int .u8 (v0 / 8 % 8), .int .u8 (v0 % 8), .int .u8 v1, .int .i8 (IntKind.i8.wrap v2), .int .i8 (IntKind.i8.wrap v3), .int .u32 v4, .int .u32 v5, .int .u32 v6, .int .u64 v7, .int .u64 v8, .int .u64 v9, .int .u64 v10, .nils, .bool false, .int .u32 0, .int .u64 0]⟩]) (good_app tG rfl)
  have hmay : mayH (v0 / 64) (v0 / 8 % 8) (v0 % 8) = false := by
    have m1 : v0 / 64 ≤ 3 := by omega
    have m2 : v0 % 8 ≤ 7 := by omega
    simp only [mayH, m1, m2, decide_true, Bool.true_and, Bool.and_true]
    by_cases c1 : 1 ≤ v0 / 8 % 8 <;> by_cases c2 : v0 / 8 % 8 ≤ 4 <;> simp_all
  rw [hmay] at eM

  have hx0 : AV.lts 0 [x] = false := by
    obtain ⟨_, b, o, c, st, l, _, _, _, _, ⟨rfl, _⟩ | rfl⟩ := hx <;> simp [AV.lts, AV.lt]
  refine W_quietP (m := M37) rfl rfl hx0 rfl rfl hg ?_
  have hnx := na_slen hx.len
  have hlen := hx.len
  have hnr0 : noAny (some rv) = some rv := by
    obtain ⟨_, _, ⟨rfl, _⟩ | rfl⟩ := tR <;> rfl
  simp (maxDischargeDepth := 9) -implicitDefEqProofs only [push_cast, simprocAttr, M37, nadd1, nadd2, nadd3, nadd4, nadd5, nadd6, nadd7, nadd8, nadd9, nadd10, nadd11, nadd12, hnx, hlen, hlx, eT, tb, k0, k1, k2, k3, f0, f1, f2, f3, g0, g1, g2, g3, g4, g5, g6, eM, hnr0]
  refine ⟨rfl, ⟨⟨.tip false, .vals [.int .u8 0, .int .u8 0, .int .u8 0, .int .u8 0, .int .i8 0, .int .i8 0, .int .u32 0, .int .u32 0, .int .u32 0, .int .u64 0, .int .u64 0, .int .u64 0, .int .u64 0, .nils, .bool false, .int .u32 0, .int .u64 0]⟩ :: (js ++ [⟨.tip false, .vals [.int .u8 (v0 / 64), .int .u8 (v0 / 8 % 8), .int .u8 (v0 % 8), .int .u8 v1, .int .i8 (IntKind.i8.wrap v2), .int .i8 (IntKind.i8.wrap v3), .int .u32 v4, .int .u32 v5, .int .u32 v6, .int .u64 v7, .int .u64 v8, .int .u64 v9, .int .u64 v10, .nils, .bool false, .int .u32 0, .int .u64 0]⟩]), ?_⟩, rfl⟩
  rw [← hH1]
  simp only [List.append_assoc, List.cons_append, List.nil_append]
  rw [behind_set]
  simp only [List.append_assoc, List.cons_append]
theorem parse_short {h : AHeap} {x : AV} {n : Nat} (hg : Good h) (hx : slen x = some n) (hn : n < 48) : W CP 37 [x] h = some (.tup [.agg [.int .u8 0, .int .u8 0, .int .u8 0, .int .u8 0, .int .i8 0, .int .i8 0, .int .u32 0, .int .u32 0, .int .u32 0, .int .u64 0, .int .u64 0, .int .u64 0, .int .u64 0, .nils, .bool false, .int .u32 0, .int .u64 0], .nils, .int .i64 4], h, []) := by
  refine W_both (m := M37) (fun _ => True) (fun _ => rfl) rfl rfl rfl gl_good trivial (fun g hg _ => ?_) hg trivial
  have hnx := na_slen hx
  have hl : (n : Int) < 48 := by omega
  simp (maxDischargeDepth := 9) -implicitDefEqProofs only [push_cast, simprocAttr, M37, nadd1, nadd2, nadd3, nadd4, nadd5, nadd6, nadd7, nadd8, nadd9, nadd10, nadd11, nadd12, hnx, hx, hl]
  exact quiet_i
end Go.Proofs.YtdpbbagllhfjbaaDoorW.AI.G
