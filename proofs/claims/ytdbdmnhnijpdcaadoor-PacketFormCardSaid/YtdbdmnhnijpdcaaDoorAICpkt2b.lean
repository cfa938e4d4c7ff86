import Derived.Test.YtdbdmnhnijpdcaaDoorAICpkt2
namespace Go.Proofs.YtdbdmnhnijpdcaaDoorW.AI.C
open Go Go.Proofs.YtdbdmnhnijpdcaaDoorW.AI Go.Proofs.YtdbdmnhnijpdcaaDoorW.AI.Oct
set_option maxRecDepth 100000
set_option linter.unusedSimpArgs false
set_option linter.unusedVariables false
set_option linter.unusedSectionVars false
section
variable {P Q : Pk} {x y : AV} {F G : List (Int × List Int)} {h : AHeap}
set_option maxHeartbeats 4000000 in
theorem refpsame_c (okp : P.Ok) (okq : Q.Ok) (hx : ExtAt h x F) (hxc : x.isCell = true) (hy : ExtAt h y G) (hyc : y.isCell = true) (hg : Good h) (hF : F.length < 1000000) : W CP 17 [.agg (P.l x), .agg (Q.l y)] h = some (.bool (sameP P Q F G), h, []) := by
  refine W_bothH (m := M17) (fun g => ExtAt g x F ∧ ExtAt g y G) (fun _ => rfl) rfl rfl rfl glG (fun h0 => ?_) (fun g hg ⟨hx, hy⟩ => ?_) hg ⟨hx, hy⟩
  · have h1 : AV.lts 0 [.agg (P.l x)] = true ∧ AV.lts 0 [.agg (Q.l y)] = true := by
      simp only [AV.lts, AV.lt, Bool.and_eq_true] at h0 ⊢
      exact ⟨⟨h0.1, trivial⟩, ⟨h0.2.1, trivial⟩⟩
    exact ⟨pk_gl hx h1.1, pk_gl hy h1.2⟩
  have hn := na_slen hx.len
  have hm := na_slen hy.len
  have hG : Good (g ++ [ABlk.new (.vals (P.l x)), ABlk.new (.vals (Q.l y))]) := good_app hg rfl
  have e1 := refSame_c (p0 := P.p0) (p1 := P.p1) (p2 := P.p2) (p3 := P.p3) (p4 := P.p4) (p5 := P.p5) (p6 := P.p6) (p7 := P.p7) (p8 := P.p8) (p9 := P.p9) (p10 := P.p10) (p11 := P.p11) (p12 := P.p12) (p15 := P.p15) (p16 := P.p16) (q0 := Q.p0) (q1 := Q.p1) (q2 := Q.p2) (q3 := Q.p3) (q4 := Q.p4) (q5 := Q.p5) (q6 := Q.p6) (q7 := Q.p7) (q8 := Q.p8) (q9 := Q.p9) (q10 := Q.p10) (q11 := Q.p11) (q12 := Q.p12) (q15 := Q.p15) (q16 := Q.p16) (ps := P.s) (qs := Q.s) hxc hyc okp.a0 okp.b0 okp.a1 okp.b1 okp.a2 okp.b2 okp.a3 okp.b3 okp.a4 okp.b4 okp.a5 okp.b5 okp.a6 okp.b6 okp.a7 okp.b7 okp.a8 okp.b8 okp.a9 okp.b9 okp.a10 okp.b10 okp.a11 okp.b11 okp.a12 okp.b12 okq.a0 okq.b0 okq.a1 okq.b1 okq.a2 okq.b2 okq.a3 okq.b3 okq.a4 okq.b4 okq.a5 okq.b5 okq.a6 okq.b6 okq.a7 okq.b7 okq.a8 okq.b8 okq.a9 okq.b9 okq.a10 okq.b10 okq.a11 okq.b11 okq.a12 okq.b12 hG
  have e2 := refSameX_c hG (hx.app _) (hy.app _) hF
  unfold sameP
  cases c1 : sameH P.p0 P.p1 P.p2 P.p3 P.p4 P.p5 P.p6 P.p7 P.p8 P.p9 P.p10 P.p11 P.p12 Q.p0 Q.p1 Q.p2 Q.p3 Q.p4 Q.p5 Q.p6 Q.p7 Q.p8 Q.p9 Q.p10 Q.p11 Q.p12 <;> rw [c1] at e1 <;> rcases Classical.propComplete (F = G) with c2 | c2 <;> cases hs : P.s <;> cases ht : Q.s <;> rcases Classical.propComplete (P.p15 = Q.p15) with c3 | c3 <;> rcases Classical.propComplete (P.p16 = Q.p16) with c4 | c4
  all_goals
    simp only [Pk.l, hs, ht, c2, decide_true, decide_false] at e1 e2
    simp (maxDischargeDepth := 9) -implicitDefEqProofs only [push_cast, simprocAttr, M17, nadd1, nadd2, nadd3, nadd4, nadd5, nadd6, nadd7, nadd8, nadd9, nadd10, nadd11, nadd12, Pk.l, hs, ht, hxc, hyc, hn, hm, e1, e2, c2, c3, c4, decide_true, decide_false]
    exact quiet_i
end
end Go.Proofs.YtdbdmnhnijpdcaaDoorW.AI.C
