import Derived.Test.YtdpbbagllhfjbaaDoorAIGpkt1
namespace Go.Proofs.YtdpbbagllhfjbaaDoorW.AI.G
open Go Go.Proofs.YtdpbbagllhfjbaaDoorW.AI Go.Proofs.YtdpbbagllhfjbaaDoorW.AI.Oct
set_option maxRecDepth 100000
set_option linter.unusedSimpArgs false
set_option linter.unusedVariables false
set_option linter.unusedSectionVars false
/-- A function that answers a new address; what is asked for holds of the variables alone where no address is handed in. -/
theorem W_addrH {C : Cfg} {f : Nat} {m : MFunc} {args : List AV} (I : AHeap → Prop) (R : AHeap → AV × AHeap × List Nat → Prop) (hp : ∀ h, C.prim f args h = none) (hm : C.mp f = some m) (ht : m.trim = true) (hi0 : AV.lts 0 args = true → I C.gl)
    (e : ∀ g, I g → Wp (xbody (W C) m args g) fun r => r.1.lt g.length = false ∧ R g r) {h : AHeap} (hi : I h) : ∃ r, W C f args h = some r ∧ R h r := by
  cases h0 : AV.lts 0 args with
  | false =>
    obtain ⟨⟨v, h', ws⟩, e1, g1, g2⟩ := e h hi
    exact ⟨(v, h', ws), by rw [W_body (hp h) hm h0 e1, ht, if_pos rfl, trim_addr g1], g2⟩
  | true => exact W_addr I R hp hm ht (hi0 h0) e hi
def headP (P : Pk) : List Int := layB sizesN (headV P.p0 P.p1 P.p2 P.p3 P.p4 P.p5 P.p6 P.p7 P.p8 P.p9 P.p10 P.p11 P.p12)
/-- Head and fields. -/
def bodyP (P : Pk) (F : List (Int × List Int)) : List Int := headP P ++ putX F
theorem headP_len (P : Pk) : (headP P).length = 48 := layB_len sizesN _ rfl
theorem pk_gl {P : Pk} {x : AV} {F : List (Int × List Int)} {h g : AHeap} (hx : ExtAt h x F) (h0 : AV.lts 0 [.agg (P.l x)] = true) : ExtAt g x F := by
  simp only [AV.lts, AV.lt, Bool.and_eq_true] at h0
  exact hx.gl h0.1.2.2.2.2.2.2.2.2.2.2.2.2.2.1
section
variable {P Q : Pk} {x y : AV} {F G : List (Int × List Int)} {h : AHeap}
def sameP (P Q : Pk) (F G : List (Int × List Int)) : Bool := sameH P.p0 P.p1 P.p2 P.p3 P.p4 P.p5 P.p6 P.p7 P.p8 P.p9 P.p10 P.p11 P.p12 Q.p0 Q.p1 Q.p2 Q.p3 Q.p4 Q.p5 Q.p6 Q.p7 Q.p8 Q.p9 Q.p10 Q.p11 Q.p12 && (decide (F = G) && (P.s == Q.s && (P.p15 == Q.p15 && P.p16 == Q.p16)))
set_option maxHeartbeats 4000000 in
theorem psame_c (hx : ExtAt h x F) (hxc : x.isCell = true) (hy : ExtAt h y G) (hyc : y.isCell = true) (hg : Good h) (hF : F.length < 1000000) : W CP 22 [.agg (P.l x), .agg (Q.l y)] h = some (.bool (sameP P Q F G), h, []) := by
  refine W_bothH (m := M22) (fun g => ExtAt g x F ∧ ExtAt g y G) (fun _ => rfl) rfl rfl rfl glG (fun h0 => ?_) (fun g hg ⟨hx, hy⟩ => ?_) hg ⟨hx, hy⟩
  · have h1 : AV.lts 0 [.agg (P.l x)] = true ∧ AV.lts 0 [.agg (Q.l y)] = true := by
      simp only [AV.lts, AV.lt, Bool.and_eq_true] at h0 ⊢
      exact ⟨⟨h0.1, trivial⟩, ⟨h0.2.1, trivial⟩⟩
    exact ⟨pk_gl hx h1.1, pk_gl hy h1.2⟩
  have hn := na_slen hx.len
  have hm := na_slen hy.len
  have hG : Good (g ++ [ABlk.new (.vals (P.l x)), ABlk.new (.vals (Q.l y))]) := good_app hg rfl
  have e1 := same_c (p0 := P.p0) (p1 := P.p1) (p2 := P.p2) (p3 := P.p3) (p4 := P.p4) (p5 := P.p5) (p6 := P.p6) (p7 := P.p7) (p8 := P.p8) (p9 := P.p9) (p10 := P.p10) (p11 := P.p11) (p12 := P.p12) (p15 := P.p15) (p16 := P.p16) (q0 := Q.p0) (q1 := Q.p1) (q2 := Q.p2) (q3 := Q.p3) (q4 := Q.p4) (q5 := Q.p5) (q6 := Q.p6) (q7 := Q.p7) (q8 := Q.p8) (q9 := Q.p9) (q10 := Q.p10) (q11 := Q.p11) (q12 := Q.p12) (q15 := Q.p15) (q16 := Q.p16) (ps := P.s) (qs := Q.s) hxc hyc hG
  have e2 := sameX_c hG (hx.app _) (hy.app _) hF
  unfold sameP
  cases c1 : sameH P.p0 P.p1 P.p2 P.p3 P.p4 P.p5 P.p6 P.p7 P.p8 P.p9 P.p10 P.p11 P.p12 Q.p0 Q.p1 Q.p2 Q.p3 Q.p4 Q.p5 Q.p6 Q.p7 Q.p8 Q.p9 Q.p10 Q.p11 Q.p12 <;> rw [c1] at e1 <;> rcases Classical.propComplete (F = G) with c2 | c2 <;> cases hs : P.s <;> cases ht : Q.s <;> rcases Classical.propComplete (P.p15 = Q.p15) with c3 | c3 <;> rcases Classical.propComplete (P.p16 = Q.p16) with c4 | c4
  all_goals
    simp only [Pk.l, hs, ht, c2, decide_true, decide_false] at e1 e2
    simp (maxDischargeDepth := 9) -implicitDefEqProofs only [push_cast, simprocAttr, M22, nadd1, nadd2, nadd3, nadd4, nadd5, nadd6, nadd7, nadd8, nadd9, nadd10, nadd11, nadd12, Pk.l, hs, ht, hxc, hyc, hn, hm, e1, e2, c2, c3, c4, decide_true, decide_false]
    exact quiet_i
end
end Go.Proofs.YtdpbbagllhfjbaaDoorW.AI.G
