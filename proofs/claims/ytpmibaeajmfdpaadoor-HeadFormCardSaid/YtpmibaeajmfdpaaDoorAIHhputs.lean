import Derived.Test.YtpmibaeajmfdpaaDoorAIHputA
namespace Go.Proofs.YtpmibaeajmfdpaaDoorW.AI.H
open Go Go.Proofs.YtpmibaeajmfdpaaDoorW.AI Go.Proofs.YtpmibaeajmfdpaaDoorW.AI.Oct Go.RowKit
set_option maxRecDepth 100000
set_option linter.unusedSimpArgs false
set_option linter.unusedVariables false
set_option linter.unusedSectionVars false
theorem Ty_cell {h : AHeap} {l : List CK} {x : AV} (t : Ty h (.sl l) x) : x.isCell = true := by
  simp only [Ty] at t
  rcases t with rfl | ⟨b, n, c, es, rfl, _⟩ <;> rfl
theorem good_gl : Good CP.gl := rfl
theorem good_ext {js : AHeap} (h : Ext js) : Good (CP.gl ++ js) := good_app good_gl (List.all_eq_true.2 fun x hx => by unfold notOld; rcases h x hx with e | e <;> rw [e])
theorem At0_gl : At0 CP.gl := at0_gl
theorem At0_ext {js : AHeap} (h : Ext js) : At0 (CP.gl ++ js) := at0_gl.app js
theorem law04_alive (h : AHeap) : W CP 14 [] h = some (.bool true, h, []) := W_known (n := 200) (fun _ => rfl) (by kernel_rfl) h
theorem law_walkS {f n : Nat} {aks : List AK} (hlaw : ∀ (js : AHeap) (avs : List AV), Ext js → TyA (CP.gl ++ js) aks avs → ∃ h' ws, W CP f avs (CP.gl ++ js) = some (.bool true, h', ws)) {ts : List TypeId} (hk : aksOf X.P n ts = some aks)
    {H : Type} {enc : TypeId × Value → H} {w : World} {base : Nat} {args : Array Value} {ds : List (DataW H)} {ps : List MemPlace} (hl : Laid CP.gl X.gid w)
    (ht : DataW.TrodAll enc Go.Proofs.Tryd.prog w 0 (fun _ => true) true ts args.toList ds ps) (hw : ∀ (j : Nat) t v, ts[j]? = some t → args.toList[j]? = some v → Value.okWide Go.Proofs.Tryd.prog w .any base t v) :
    Calls Go.Proofs.Tryd.prog f args w fun e w' => e = .returned (.bool true) ∧ Below w.heap.size w w' :=
  law_laid (X := X) CP follows rfl mp_chk primOk hlaw hl hk ht hw
theorem same_self (p0 p1 p2 p3 p4 p5 p6 p7 p8 p9 p10 p11 p12 : Int) : sameH p0 p1 p2 p3 p4 p5 p6 p7 p8 p9 p10 p11 p12 p0 p1 p2 p3 p4 p5 p6 p7 p8 p9 p10 p11 p12 = true := by simp [sameH]
set_option maxHeartbeats 8000000 in
theorem puts_body (g : AHeap) (hg : Good g) (ha : At0 g) (p0 p1 p2 p3 p4 p5 p6 p7 p8 p9 p10 p11 p12 : Int) (px : AV) (ps : Bool) (p15 p16 q0 q1 q2 q3 q4 q5 q6 q7 q8 q9 q10 q11 q12 : Int) (qx : AV) (qs : Bool) (q15 q16 : Int) (hp : px.isCell = true) (hq : qx.isCell = true) (pl0 : 0 ≤ p0) (pu0 : p0 ≤ 255) (pl1 : 0 ≤ p1) (pu1 : p1 ≤ 255) (pl2 : 0 ≤ p2) (pu2 : p2 ≤ 255) (pl3 : 0 ≤ p3) (pu3 : p3 ≤ 255) (pl4 : -128 ≤ p4) (pu4 : p4 ≤ 127) (pl5 : -128 ≤ p5) (pu5 : p5 ≤ 127) (pl6 : 0 ≤ p6) (pu6 : p6 ≤ 4294967295) (pl7 : 0 ≤ p7) (pu7 : p7 ≤ 4294967295) (pl8 : 0 ≤ p8) (pu8 : p8 ≤ 4294967295) (pl9 : 0 ≤ p9) (pu9 : p9 ≤ 18446744073709551615) (pl10 : 0 ≤ p10) (pu10 : p10 ≤ 18446744073709551615) (pl11 : 0 ≤ p11) (pu11 : p11 ≤ 18446744073709551615) (pl12 : 0 ≤ p12) (pu12 : p12 ≤ 18446744073709551615) (ql0 : 0 ≤ q0) (qu0 : q0 ≤ 255) (ql1 : 0 ≤ q1) (qu1 : q1 ≤ 255) (ql2 : 0 ≤ q2) (qu2 : q2 ≤ 255) (ql3 : 0 ≤ q3) (qu3 : q3 ≤ 255) (ql4 : -128 ≤ q4) (qu4 : q4 ≤ 127) (ql5 : -128 ≤ q5) (qu5 : q5 ≤ 127) (ql6 : 0 ≤ q6) (qu6 : q6 ≤ 4294967295) (ql7 : 0 ≤ q7) (qu7 : q7 ≤ 4294967295) (ql8 : 0 ≤ q8) (qu8 : q8 ≤ 4294967295) (ql9 : 0 ≤ q9) (qu9 : q9 ≤ 18446744073709551615) (ql10 : 0 ≤ q10) (qu10 : q10 ≤ 18446744073709551615) (ql11 : 0 ≤ q11) (qu11 : q11 ≤ 18446744073709551615) (ql12 : 0 ≤ q12) (qu12 : q12 ≤ 18446744073709551615) :
    Wp (xbody (W CP) M3 [.agg [.int .u8 p0, .int .u8 p1, .int .u8 p2, .int .u8 p3, .int .i8 p4, .int .i8 p5, .int .u32 p6, .int .u32 p7, .int .u32 p8, .int .u64 p9, .int .u64 p10, .int .u64 p11, .int .u64 p12, px, .bool ps, .int .u32 p15, .int .u64 p16], .agg [.int .u8 q0, .int .u8 q1, .int .u8 q2, .int .u8 q3, .int .i8 q4, .int .i8 q5, .int .u32 q6, .int .u32 q7, .int .u32 q8, .int .u64 q9, .int .u64 q10, .int .u64 q11, .int .u64 q12, qx, .bool qs, .int .u32 q15, .int .u64 q16]] g) fun r => r.1 = .bool true := by
  have hG : Good (g ++ [⟨.tip false, .vals [.int .u8 p0, .int .u8 p1, .int .u8 p2, .int .u8 p3, .int .i8 p4, .int .i8 p5, .int .u32 p6, .int .u32 p7, .int .u32 p8, .int .u64 p9, .int .u64 p10, .int .u64 p11, .int .u64 p12, px, .bool ps, .int .u32 p15, .int .u64 p16]⟩, ⟨.tip false, .vals [.int .u8 q0, .int .u8 q1, .int .u8 q2, .int .u8 q3, .int .i8 q4, .int .i8 q5, .int .u32 q6, .int .u32 q7, .int .u32 q8, .int .u64 q9, .int .u64 q10, .int .u64 q11, .int .u64 q12, qx, .bool qs, .int .u32 q15, .int .u64 q16]⟩]) := good_app hg rfl
  have aw := fun h => law04_alive h
  have rest : ∀ H, Good H → W CP 10 [.agg [.int .u8 p0, .int .u8 p1, .int .u8 p2, .int .u8 p3, .int .i8 p4, .int .i8 p5, .int .u32 p6, .int .u32 p7, .int .u32 p8, .int .u64 p9, .int .u64 p10, .int .u64 p11, .int .u64 p12, px, .bool ps, .int .u32 p15, .int .u64 p16]] H = some (.bool (mayH p0 p1 p2), H, []) ∧ W CP 11 [.agg [.int .u8 p0, .int .u8 p1, .int .u8 p2, .int .u8 p3, .int .i8 p4, .int .i8 p5, .int .u32 p6, .int .u32 p7, .int .u32 p8, .int .u64 p9, .int .u64 p10, .int .u64 p11, .int .u64 p12, px, .bool ps, .int .u32 p15, .int .u64 p16]] H = some (.bool (mayH p0 p1 p2), H, []) ∧ W CP 12 [.agg [.int .u8 p0, .int .u8 p1, .int .u8 p2, .int .u8 p3, .int .i8 p4, .int .i8 p5, .int .u32 p6, .int .u32 p7, .int .u32 p8, .int .u64 p9, .int .u64 p10, .int .u64 p11, .int .u64 p12, px, .bool ps, .int .u32 p15, .int .u64 p16], .agg [.int .u8 q0, .int .u8 q1, .int .u8 q2, .int .u8 q3, .int .i8 q4, .int .i8 q5, .int .u32 q6, .int .u32 q7, .int .u32 q8, .int .u64 q9, .int .u64 q10, .int .u64 q11, .int .u64 q12, qx, .bool qs, .int .u32 q15, .int .u64 q16]] H = some (.bool (sameH p0 p1 p2 p3 p4 p5 p6 p7 p8 p9 p10 p11 p12 q0 q1 q2 q3 q4 q5 q6 q7 q8 q9 q10 q11 q12), H, []) ∧ W CP 13 [.agg [.int .u8 p0, .int .u8 p1, .int .u8 p2, .int .u8 p3, .int .i8 p4, .int .i8 p5, .int .u32 p6, .int .u32 p7, .int .u32 p8, .int .u64 p9, .int .u64 p10, .int .u64 p11, .int .u64 p12, px, .bool ps, .int .u32 p15, .int .u64 p16], .agg [.int .u8 q0, .int .u8 q1, .int .u8 q2, .int .u8 q3, .int .i8 q4, .int .i8 q5, .int .u32 q6, .int .u32 q7, .int .u32 q8, .int .u64 q9, .int .u64 q10, .int .u64 q11, .int .u64 q12, qx, .bool qs, .int .u32 q15, .int .u64 q16]] H = some (.bool (sameH p0 p1 p2 p3 p4 p5 p6 p7 p8 p9 p10 p11 p12 q0 q1 q2 q3 q4 q5 q6 q7 q8 q9 q10 q11 q12), H, []) ∧ W CP 12 [.agg [.int .u8 p0, .int .u8 p1, .int .u8 p2, .int .u8 p3, .int .i8 p4, .int .i8 p5, .int .u32 p6, .int .u32 p7, .int .u32 p8, .int .u64 p9, .int .u64 p10, .int .u64 p11, .int .u64 p12, px, .bool ps, .int .u32 p15, .int .u64 p16], .agg [.int .u8 p0, .int .u8 p1, .int .u8 p2, .int .u8 p3, .int .i8 p4, .int .i8 p5, .int .u32 p6, .int .u32 p7, .int .u32 p8, .int .u64 p9, .int .u64 p10, .int .u64 p11, .int .u64 p12, px, .bool ps, .int .u32 p15, .int .u64 p16]] H = some (.bool (sameH p0 p1 p2 p3 p4 p5 p6 p7 p8 p9 p10 p11 p12 p0 p1 p2 p3 p4 p5 p6 p7 p8 p9 p10 p11 p12), H, []) :=
    fun H hH => ⟨may_c (p0 := p0) (p1 := p1) (p2 := p2) (p3 := p3) (p4 := p4) (p5 := p5) (p6 := p6) (p7 := p7) (p8 := p8) (p9 := p9) (p10 := p10) (p11 := p11) (p12 := p12) (p15 := p15) (p16 := p16) (s := ps) hp hH, refMay_c (p0 := p0) (p1 := p1) (p2 := p2) (p3 := p3) (p4 := p4) (p5 := p5) (p6 := p6) (p7 := p7) (p8 := p8) (p9 := p9) (p10 := p10) (p11 := p11) (p12 := p12) (p15 := p15) (p16 := p16) (s := ps) hp hH, same_c hp hq hH, refSame_c hp hq pl0 pu0 pl1 pu1 pl2 pu2 pl3 pu3 pl4 pu4 pl5 pu5 pl6 pu6 pl7 pu7 pl8 pu8 pl9 pu9 pl10 pu10 pl11 pu11 pl12 pu12 ql0 qu0 ql1 qu1 ql2 qu2 ql3 qu3 ql4 qu4 ql5 qu5 ql6 qu6 ql7 qu7 ql8 qu8 ql9 qu9 ql10 qu10 ql11 qu11 ql12 qu12 hH, same_c hp hp hH⟩
  cases hm : mayH p0 p1 p2 with
  | true =>
    have e0 := put_c (p0 := p0) (p1 := p1) (p2 := p2) (p3 := p3) (p4 := p4) (p5 := p5) (p6 := p6) (p7 := p7) (p8 := p8) (p9 := p9) (p10 := p10) (p11 := p11) (p12 := p12) (p15 := p15) (p16 := p16) (s := ps) hp hm pl0 pl1 pl2 pl3 pu3 pl4 pu4 pl5 pu5 pl6 pu6 pl7 pu7 pl8 pu8 pl9 pu9 pl10 pu10 pl11 pu11 pl12 pu12 hG (ha.app _)
    obtain ⟨H1, hH1⟩ : ∃ H1 : AHeap, (g ++ [(⟨.tip false, .vals [.int .u8 p0, .int .u8 p1, .int .u8 p2, .int .u8 p3, .int .i8 p4, .int .i8 p5, .int .u32 p6, .int .u32 p7, .int .u32 p8, .int .u64 p9, .int .u64 p10, .int .u64 p11, .int .u64 p12, px, .bool ps, .int .u32 p15, .int .u64 p16]⟩ : ABlk), ⟨.tip false, .vals [.int .u8 q0, .int .u8 q1, .int .u8 q2, .int .u8 q3, .int .i8 q4, .int .i8 q5, .int .u32 q6, .int .u32 q7, .int .u32 q8, .int .u64 q9, .int .u64 q10, .int .u64 q11, .int .u64 q12, qx, .bool qs, .int .u32 q15, .int .u64 q16]⟩]) ++ putJs ⟨.tip false, .vals [.int .u8 p0, .int .u8 p1, .int .u8 p2, .int .u8 p3, .int .i8 p4, .int .i8 p5, .int .u32 p6, .int .u32 p7, .int .u32 p8, .int .u64 p9, .int .u64 p10, .int .u64 p11, .int .u64 p12, px, .bool ps, .int .u32 p15, .int .u64 p16]⟩ (headV p0 p1 p2 p3 p4 p5 p6 p7 p8 p9 p10 p11 p12) ((g ++ [(⟨.tip false, .vals [.int .u8 p0, .int .u8 p1, .int .u8 p2, .int .u8 p3, .int .i8 p4, .int .i8 p5, .int .u32 p6, .int .u32 p7, .int .u32 p8, .int .u64 p9, .int .u64 p10, .int .u64 p11, .int .u64 p12, px, .bool ps, .int .u32 p15, .int .u64 p16]⟩ : ABlk), ⟨.tip false, .vals [.int .u8 q0, .int .u8 q1, .int .u8 q2, .int .u8 q3, .int .i8 q4, .int .i8 q5, .int .u32 q6, .int .u32 q7, .int .u32 q8, .int .u64 q9, .int .u64 q10, .int .u64 q11, .int .u64 q12, qx, .bool qs, .int .u32 q15, .int .u64 q16]⟩]).length + 1) = H1 := ⟨_, rfl⟩
    rw [hH1] at e0
    have hG1 : Good H1 := by rw [← hH1]; exact good_app hG rfl
    have k0 : Keeps (g ++ [⟨.tip false, .vals [.int .u8 p0, .int .u8 p1, .int .u8 p2, .int .u8 p3, .int .i8 p4, .int .i8 p5, .int .u32 p6, .int .u32 p7, .int .u32 p8, .int .u64 p9, .int .u64 p10, .int .u64 p11, .int .u64 p12, px, .bool ps, .int .u32 p15, .int .u64 p16]⟩, ⟨.tip false, .vals [.int .u8 q0, .int .u8 q1, .int .u8 q2, .int .u8 q3, .int .i8 q4, .int .i8 q5, .int .u32 q6, .int .u32 q7, .int .u32 q8, .int .u64 q9, .int .u64 q10, .int .u64 q11, .int .u64 q12, qx, .bool qs, .int .u32 q15, .int .u64 q16]⟩]) H1 none := by rw [← hH1]; exact Keeps.app _ _ _ rfl
    have hB : H1[(g ++ [(⟨.tip false, .vals [.int .u8 p0, .int .u8 p1, .int .u8 p2, .int .u8 p3, .int .i8 p4, .int .i8 p5, .int .u32 p6, .int .u32 p7, .int .u32 p8, .int .u64 p9, .int .u64 p10, .int .u64 p11, .int .u64 p12, px, .bool ps, .int .u32 p15, .int .u64 p16]⟩ : ABlk), ⟨.tip false, .vals [.int .u8 q0, .int .u8 q1, .int .u8 q2, .int .u8 q3, .int .i8 q4, .int .i8 q5, .int .u32 q6, .int .u32 q7, .int .u32 q8, .int .u64 q9, .int .u64 q10, .int .u64 q11, .int .u64 q12, qx, .bool qs, .int .u32 q15, .int .u64 q16]⟩]).length + 4]? = some ⟨.tip false, .ints .u8 (layB sizesN (headV p0 p1 p2 p3 p4 p5 p6 p7 p8 p9 p10 p11 p12))⟩ := by
      rw [← hH1, List.getElem?_append_right (by omega)]; simp [putJs]
    obtain ⟨v2, H2, t2, e2, k2, b2, c2, g2⟩ := refPut_c (p0 := p0) (p1 := p1) (p2 := p2) (p3 := p3) (p4 := p4) (p5 := p5) (p6 := p6) (p7 := p7) (p8 := p8) (p9 := p9) (p10 := p10) (p11 := p11) (p12 := p12) (p15 := p15) (p16 := p16) (s := ps) hp hm pl0 pl1 pl2 pl3 pu3 pl4 pu4 pl5 pu5 pl6 pu6 pl7 pu7 pl8 pu8 pl9 pu9 pl10 pu10 pl11 pu11 pl12 pu12 hG1
    obtain ⟨y2, mn2, rfl, s2⟩ := g2.cells (by rw [layB_len _ _ rfl]; decide)
    have hG2 := k2.2.2 hG1
    have kk := Keeps.trans hG k0 k2 (by simp)
    have x1 : H1[g.length]? = some ⟨.tip false, .vals [.int .u8 p0, .int .u8 p1, .int .u8 p2, .int .u8 p3, .int .i8 p4, .int .i8 p5, .int .u32 p6, .int .u32 p7, .int .u32 p8, .int .u64 p9, .int .u64 p10, .int .u64 p11, .int .u64 p12, px, .bool ps, .int .u32 p15, .int .u64 p16]⟩ := k0.1 _ _ (by simp) (by simp) (by simp)
    have x2 := (List.getElem?_eq_some_iff.1 x1).1
    have y1 : H2[g.length]? = some ⟨.tip false, .vals [.int .u8 p0, .int .u8 p1, .int .u8 p2, .int .u8 p3, .int .i8 p4, .int .i8 p5, .int .u32 p6, .int .u32 p7, .int .u32 p8, .int .u64 p9, .int .u64 p10, .int .u64 p11, .int .u64 p12, px, .bool ps, .int .u32 p15, .int .u64 p16]⟩ := kk.1 _ _ (by simp) (by simp) (by simp)
    have y3 := (List.getElem?_eq_some_iff.1 y1).1
    have y4 : H2[g.length + 1]? = some ⟨.tip false, .vals [.int .u8 q0, .int .u8 q1, .int .u8 q2, .int .u8 q3, .int .i8 q4, .int .i8 q5, .int .u32 q6, .int .u32 q7, .int .u32 q8, .int .u64 q9, .int .u64 q10, .int .u64 q11, .int .u64 q12, qx, .bool qs, .int .u32 q15, .int .u64 q16]⟩ := kk.1 _ _ (by simp) (by simp) (by simp)
    have y5 := (List.getElem?_eq_some_iff.1 y4).1
    have y6 : ¬ H2.length ≤ g.length := by omega
    have y7 : ¬ H2.length ≤ g.length + 1 := by omega
    have hB2 := k2.1 _ _ hB (by simp) (by simp)
    have s1 := sl_cells (c := 48) hB2
    have hl48 : (layB sizesN (headV p0 p1 p2 p3 p4 p5 p6 p7 p8 p9 p10 p11 p12)).length = 48 := by rw [layB_len _ _ rfl]; rfl
    rw [hl48] at s1 s2 e2
    have z1 := bytesOf_sb (layB sizesN (headV p0 p1 p2 p3 p4 p5 p6 p7 p8 p9 p10 p11 p12))
    obtain ⟨r1, r2, r3, r4, r5⟩ := rest H2 hG2
    rw [hm] at r1 r2
    rw [same_self] at r5
    cases hs : sameH p0 p1 p2 p3 p4 p5 p6 p7 p8 p9 p10 p11 p12 q0 q1 q2 q3 q4 q5 q6 q7 q8 q9 q10 q11 q12 <;> rw [hs] at r3 r4
    all_goals
      simp only [List.length_append, List.length_cons, List.length_nil, Nat.add_assoc, Nat.reduceAdd] at e0 s1
      simp (maxDischargeDepth := 9) -implicitDefEqProofs only [push_cast, reduceIte, Nat.reduceEqDiff, Nat.reduceAdd, Nat.reduceSub, Nat.reduceMul, Nat.reduceDiv, Nat.reduceMod, Nat.reduceLT, Nat.reduceLeDiff, Nat.reduceBEq, Nat.reduceBNe, reduceCtorEq, Int.reduceEq, Int.reduceNe, Int.reduceLT, Int.reduceLE, Int.reduceToNat, Int.reduceNeg, Int.reduceAdd, Int.reduceSub, Int.reduceMul, Int.reducePow, Nat.reducePow, Int.reduceBEq, M3, nadd1, nadd2, nadd3, nadd4, nadd5, nadd6, nadd7, nadd8, nadd9, nadd10, nadd11, nadd12, hp, hq, e0, e2, x1, x2, y1, y3, y4, y5, y6, y7, s1, s2, z1, sb_toList, list_eqb, decide_true, r1, r2, r3, r4, r5, aw]
  | false =>
    have e0 := put_bad (p0 := p0) (p1 := p1) (p2 := p2) (p3 := p3) (p4 := p4) (p5 := p5) (p6 := p6) (p7 := p7) (p8 := p8) (p9 := p9) (p10 := p10) (p11 := p11) (p12 := p12) (p15 := p15) (p16 := p16) (s := ps) hp hm hG
    have e2 := refPut_bad (p0 := p0) (p1 := p1) (p2 := p2) (p3 := p3) (p4 := p4) (p5 := p5) (p6 := p6) (p7 := p7) (p8 := p8) (p9 := p9) (p10 := p10) (p11 := p11) (p12 := p12) (p15 := p15) (p16 := p16) (s := ps) hp hm hG
    obtain ⟨r1, r2, r3, r4, r5⟩ := rest _ hG
    rw [hm] at r1 r2
    rw [same_self] at r5
    cases hs : sameH p0 p1 p2 p3 p4 p5 p6 p7 p8 p9 p10 p11 p12 q0 q1 q2 q3 q4 q5 q6 q7 q8 q9 q10 q11 q12 <;> rw [hs] at r3 r4
    all_goals
      simp (maxDischargeDepth := 9) -implicitDefEqProofs only [push_cast, reduceIte, Nat.reduceEqDiff, Nat.reduceAdd, Nat.reduceSub, Nat.reduceMul, Nat.reduceDiv, Nat.reduceMod, Nat.reduceLT, Nat.reduceLeDiff, Nat.reduceBEq, Nat.reduceBNe, reduceCtorEq, Int.reduceEq, Int.reduceNe, Int.reduceLT, Int.reduceLE, Int.reduceToNat, Int.reduceNeg, Int.reduceAdd, Int.reduceSub, Int.reduceMul, Int.reducePow, Nat.reducePow, Int.reduceBEq, M3, nadd1, nadd2, nadd3, nadd4, nadd5, nadd6, nadd7, nadd8, nadd9, nadd10, nadd11, nadd12, hp, hq, e0, e2, r1, r2, r3, r4, r5, aw]
      try rfl
theorem puts_all (g : AHeap) (hg : Good g) (ha : At0 g) (n0 : Int) (n1 : Int) (n2 : Int) (n3 : Int) (n4 : Int) (n5 : Int) (n6 : Int) (n7 : Int) (n8 : Int) (n9 : Int) (n10 : Int) (n11 : Int) (n12 : Int) (n13 : AV) (n14 : Bool) (n15 : Int) (n16 : Int) (n17 : Int) (n18 : Int) (n19 : Int) (n20 : Int) (n21 : Int) (n22 : Int) (n23 : Int) (n24 : Int) (n25 : Int) (n26 : Int) (n27 : Int) (n28 : Int) (n29 : Int) (n30 : AV) (n31 : Bool) (n32 : Int) (n33 : Int) (a0 : 0 ≤ n0) (b0 : n0 ≤ 255) (a1 : 0 ≤ n1) (b1 : n1 ≤ 255) (a2 : 0 ≤ n2) (b2 : n2 ≤ 255) (a3 : 0 ≤ n3) (b3 : n3 ≤ 255) (a4 : -128 ≤ n4) (b4 : n4 ≤ 127) (a5 : -128 ≤ n5) (b5 : n5 ≤ 127) (a6 : 0 ≤ n6) (b6 : n6 ≤ 4294967295) (a7 : 0 ≤ n7) (b7 : n7 ≤ 4294967295) (a8 : 0 ≤ n8) (b8 : n8 ≤ 4294967295) (a9 : 0 ≤ n9) (b9 : n9 ≤ 18446744073709551615) (a10 : 0 ≤ n10) (b10 : n10 ≤ 18446744073709551615) (a11 : 0 ≤ n11) (b11 : n11 ≤ 18446744073709551615) (a12 : 0 ≤ n12) (b12 : n12 ≤ 18446744073709551615) (a13 : n13.isCell = true) (a15 : 0 ≤ n15) (b15 : n15 ≤ 4294967295) (a16 : 0 ≤ n16) (b16 : n16 ≤ 18446744073709551615) (a17 : 0 ≤ n17) (b17 : n17 ≤ 255) (a18 : 0 ≤ n18) (b18 : n18 ≤ 255) (a19 : 0 ≤ n19) (b19 : n19 ≤ 255) (a20 : 0 ≤ n20) (b20 : n20 ≤ 255) (a21 : -128 ≤ n21) (b21 : n21 ≤ 127) (a22 : -128 ≤ n22) (b22 : n22 ≤ 127) (a23 : 0 ≤ n23) (b23 : n23 ≤ 4294967295) (a24 : 0 ≤ n24) (b24 : n24 ≤ 4294967295) (a25 : 0 ≤ n25) (b25 : n25 ≤ 4294967295) (a26 : 0 ≤ n26) (b26 : n26 ≤ 18446744073709551615) (a27 : 0 ≤ n27) (b27 : n27 ≤ 18446744073709551615) (a28 : 0 ≤ n28) (b28 : n28 ≤ 18446744073709551615) (a29 : 0 ≤ n29) (b29 : n29 ≤ 18446744073709551615) (a30 : n30.isCell = true) (a32 : 0 ≤ n32) (b32 : n32 ≤ 4294967295) (a33 : 0 ≤ n33) (b33 : n33 ≤ 18446744073709551615) :
    Wp (xbody (W CP) M3 [.agg [.int .u8 n0, .int .u8 n1, .int .u8 n2, .int .u8 n3, .int .i8 n4, .int .i8 n5, .int .u32 n6, .int .u32 n7, .int .u32 n8, .int .u64 n9, .int .u64 n10, .int .u64 n11, .int .u64 n12, n13, .bool n14, .int .u32 n15, .int .u64 n16], .agg [.int .u8 n17, .int .u8 n18, .int .u8 n19, .int .u8 n20, .int .i8 n21, .int .i8 n22, .int .u32 n23, .int .u32 n24, .int .u32 n25, .int .u64 n26, .int .u64 n27, .int .u64 n28, .int .u64 n29, n30, .bool n31, .int .u32 n32, .int .u64 n33]] g) fun r => r.1 = .bool true := puts_body g hg ha n0 n1 n2 n3 n4 n5 n6 n7 n8 n9 n10 n11 n12 n13 n14 n15 n16 n17 n18 n19 n20 n21 n22 n23 n24 n25 n26 n27 n28 n29 n30 n31 n32 n33 a13 a30 a0 b0 a1 b1 a2 b2 a3 b3 a4 b4 a5 b5 a6 b6 a7 b7 a8 b8 a9 b9 a10 b10 a11 b11 a12 b12 a17 b17 a18 b18 a19 b19 a20 b20 a21 b21 a22 b22 a23 b23 a24 b24 a25 b25 a26 b26 a27 b27 a28 b28 a29 b29
theorem puts_law (js : AHeap) (avs : List AV) (hx : Ext js) (ht : TyA (CP.gl ++ js) [.agg [.i .u8, .i .u8, .i .u8, .i .u8, .i .i8, .i .i8, .i .u32, .i .u32, .i .u32, .i .u64, .i .u64, .i .u64, .i .u64, .sl [.i .u16, .sl [.i .u8]], .b, .i .u32, .i .u64], .agg [.i .u8, .i .u8, .i .u8, .i .u8, .i .i8, .i .i8, .i .u32, .i .u32, .i .u32, .i .u64, .i .u64, .i .u64, .i .u64, .sl [.i .u16, .sl [.i .u8]], .b, .i .u32, .i .u64]] avs) : ∃ h' ws, W CP 3 avs (CP.gl ++ js) = some (.bool true, h', ws) := by
  simp only [TyA] at ht
  obtain ⟨cs0, _, rfl, k0, cs1, _, rfl, k1, rfl⟩ := ht
  simp only [TyL, Ty] at k0 k1
  obtain ⟨_, _, rfl, ⟨n0, rfl, a0, b0⟩, _, _, rfl, ⟨n1, rfl, a1, b1⟩, _, _, rfl, ⟨n2, rfl, a2, b2⟩, _, _, rfl, ⟨n3, rfl, a3, b3⟩, _, _, rfl, ⟨n4, rfl, a4, b4⟩, _, _, rfl, ⟨n5, rfl, a5, b5⟩, _, _, rfl, ⟨n6, rfl, a6, b6⟩, _, _, rfl, ⟨n7, rfl, a7, b7⟩, _, _, rfl, ⟨n8, rfl, a8, b8⟩, _, _, rfl, ⟨n9, rfl, a9, b9⟩, _, _, rfl, ⟨n10, rfl, a10, b10⟩, _, _, rfl, ⟨n11, rfl, a11, b11⟩, _, _, rfl, ⟨n12, rfl, a12, b12⟩, n13, _, rfl, y13, _, _, rfl, ⟨n14, rfl⟩, _, _, rfl, ⟨n15, rfl, a15, b15⟩, _, _, rfl, ⟨n16, rfl, a16, b16⟩, rfl⟩ := k0
  obtain ⟨_, _, rfl, ⟨n17, rfl, a17, b17⟩, _, _, rfl, ⟨n18, rfl, a18, b18⟩, _, _, rfl, ⟨n19, rfl, a19, b19⟩, _, _, rfl, ⟨n20, rfl, a20, b20⟩, _, _, rfl, ⟨n21, rfl, a21, b21⟩, _, _, rfl, ⟨n22, rfl, a22, b22⟩, _, _, rfl, ⟨n23, rfl, a23, b23⟩, _, _, rfl, ⟨n24, rfl, a24, b24⟩, _, _, rfl, ⟨n25, rfl, a25, b25⟩, _, _, rfl, ⟨n26, rfl, a26, b26⟩, _, _, rfl, ⟨n27, rfl, a27, b27⟩, _, _, rfl, ⟨n28, rfl, a28, b28⟩, _, _, rfl, ⟨n29, rfl, a29, b29⟩, n30, _, rfl, y30, _, _, rfl, ⟨n31, rfl⟩, _, _, rfl, ⟨n32, rfl, a32, b32⟩, _, _, rfl, ⟨n33, rfl, a33, b33⟩, rfl⟩ := k1
  have a0' : 0 ≤ n0 := a0
  have b0' : n0 ≤ 255 := b0
  have a1' : 0 ≤ n1 := a1
  have b1' : n1 ≤ 255 := b1
  have a2' : 0 ≤ n2 := a2
  have b2' : n2 ≤ 255 := b2
  have a3' : 0 ≤ n3 := a3
  have b3' : n3 ≤ 255 := b3
  have a4' : -128 ≤ n4 := a4
  have b4' : n4 ≤ 127 := b4
  have a5' : -128 ≤ n5 := a5
  have b5' : n5 ≤ 127 := b5
  have a6' : 0 ≤ n6 := a6
  have b6' : n6 ≤ 4294967295 := b6
  have a7' : 0 ≤ n7 := a7
  have b7' : n7 ≤ 4294967295 := b7
  have a8' : 0 ≤ n8 := a8
  have b8' : n8 ≤ 4294967295 := b8
  have a9' : 0 ≤ n9 := a9
  have b9' : n9 ≤ 18446744073709551615 := b9
  have a10' : 0 ≤ n10 := a10
  have b10' : n10 ≤ 18446744073709551615 := b10
  have a11' : 0 ≤ n11 := a11
  have b11' : n11 ≤ 18446744073709551615 := b11
  have a12' : 0 ≤ n12 := a12
  have b12' : n12 ≤ 18446744073709551615 := b12
  have a13 : Ty (CP.gl ++ js) (.sl [.i .u16, .sl [.i .u8]]) n13 := by simp only [Ty]; exact y13
  have a15' : 0 ≤ n15 := a15
  have b15' : n15 ≤ 4294967295 := b15
  have a16' : 0 ≤ n16 := a16
  have b16' : n16 ≤ 18446744073709551615 := b16
  have a17' : 0 ≤ n17 := a17
  have b17' : n17 ≤ 255 := b17
  have a18' : 0 ≤ n18 := a18
  have b18' : n18 ≤ 255 := b18
  have a19' : 0 ≤ n19 := a19
  have b19' : n19 ≤ 255 := b19
  have a20' : 0 ≤ n20 := a20
  have b20' : n20 ≤ 255 := b20
  have a21' : -128 ≤ n21 := a21
  have b21' : n21 ≤ 127 := b21
  have a22' : -128 ≤ n22 := a22
  have b22' : n22 ≤ 127 := b22
  have a23' : 0 ≤ n23 := a23
  have b23' : n23 ≤ 4294967295 := b23
  have a24' : 0 ≤ n24 := a24
  have b24' : n24 ≤ 4294967295 := b24
  have a25' : 0 ≤ n25 := a25
  have b25' : n25 ≤ 4294967295 := b25
  have a26' : 0 ≤ n26 := a26
  have b26' : n26 ≤ 18446744073709551615 := b26
  have a27' : 0 ≤ n27 := a27
  have b27' : n27 ≤ 18446744073709551615 := b27
  have a28' : 0 ≤ n28 := a28
  have b28' : n28 ≤ 18446744073709551615 := b28
  have a29' : 0 ≤ n29 := a29
  have b29' : n29 ≤ 18446744073709551615 := b29
  have a30 : Ty (CP.gl ++ js) (.sl [.i .u16, .sl [.i .u8]]) n30 := by simp only [Ty]; exact y30
  have a32' : 0 ≤ n32 := a32
  have b32' : n32 ≤ 4294967295 := b32
  have a33' : 0 ≤ n33 := a33
  have b33' : n33 ≤ 18446744073709551615 := b33
  exact W_law (m := M3) (fun _ => rfl) rfl (puts_all _ (good_ext hx) (At0_ext hx) n0 n1 n2 n3 n4 n5 n6 n7 n8 n9 n10 n11 n12 n13 n14 n15 n16 n17 n18 n19 n20 n21 n22 n23 n24 n25 n26 n27 n28 n29 n30 n31 n32 n33 a0' b0' a1' b1' a2' b2' a3' b3' a4' b4' a5' b5' a6' b6' a7' b7' a8' b8' a9' b9' a10' b10' a11' b11' a12' b12' (Ty_cell a13) a15' b15' a16' b16' a17' b17' a18' b18' a19' b19' a20' b20' a21' b21' a22' b22' a23' b23' a24' b24' a25' b25' a26' b26' a27' b27' a28' b28' a29' b29' (Ty_cell a30) a32' b32' a33' b33') fun _ => puts_all _ good_gl At0_gl n0 n1 n2 n3 n4 n5 n6 n7 n8 n9 n10 n11 n12 n13 n14 n15 n16 n17 n18 n19 n20 n21 n22 n23 n24 n25 n26 n27 n28 n29 n30 n31 n32 n33 a0' b0' a1' b1' a2' b2' a3' b3' a4' b4' a5' b5' a6' b6' a7' b7' a8' b8' a9' b9' a10' b10' a11' b11' a12' b12' (Ty_cell a13) a15' b15' a16' b16' a17' b17' a18' b18' a19' b19' a20' b20' a21' b21' a22' b22' a23' b23' a24' b24' a25' b25' a26' b26' a27' b27' a28' b28' a29' b29' (Ty_cell a30) a32' b32' a33' b33'
theorem puts_kinds : aksOf X.P 20 [27, 27] = some [.agg [.i .u8, .i .u8, .i .u8, .i .u8, .i .i8, .i .i8, .i .u32, .i .u32, .i .u32, .i .u64, .i .u64, .i .u64, .i .u64, .sl [.i .u16, .sl [.i .u8]], .b, .i .u32, .i .u64], .agg [.i .u8, .i .u8, .i .u8, .i .u8, .i .i8, .i .i8, .i .u32, .i .u32, .i .u32, .i .u64, .i .u64, .i .u64, .i .u64, .sl [.i .u16, .sl [.i .u8]], .b, .i .u32, .i .u64]] := by kernel_rfl
end Go.Proofs.YtpmibaeajmfdpaaDoorW.AI.H
