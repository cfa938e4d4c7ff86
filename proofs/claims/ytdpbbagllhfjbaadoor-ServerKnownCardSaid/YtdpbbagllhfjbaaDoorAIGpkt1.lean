import Derived.Test.YtdpbbagllhfjbaaDoorAIGhparse3
import Derived.Test.YtdpbbagllhfjbaaDoorAIGfew_
namespace Go.Proofs.YtdpbbagllhfjbaaDoorW.AI.G
open Go Go.Proofs.YtdpbbagllhfjbaaDoorW.AI Go.Proofs.YtdpbbagllhfjbaaDoorW.AI.Oct
set_option maxRecDepth 100000
set_option linter.unusedSimpArgs false
set_option linter.unusedVariables false
set_option linter.unusedSectionVars false
/-- A packet's numbers; its fields stand beside them. -/
structure Pk where
  p0 : Int
  p1 : Int
  p2 : Int
  p3 : Int
  p4 : Int
  p5 : Int
  p6 : Int
  p7 : Int
  p8 : Int
  p9 : Int
  p10 : Int
  p11 : Int
  p12 : Int
  s : Bool
  p15 : Int
  p16 : Int
/-- A packet's cells. -/
abbrev Pk.l (P : Pk) (x : AV) : List AV := [.int .u8 P.p0, .int .u8 P.p1, .int .u8 P.p2, .int .u8 P.p3, .int .i8 P.p4, .int .i8 P.p5, .int .u32 P.p6, .int .u32 P.p7, .int .u32 P.p8, .int .u64 P.p9, .int .u64 P.p10, .int .u64 P.p11, .int .u64 P.p12, x, .bool P.s, .int .u32 P.p15, .int .u64 P.p16]
/-- The numbers are of their kinds. -/
structure Pk.Ok (P : Pk) : Prop where
  a0 : 0 ≤ P.p0
  b0 : P.p0 ≤ 255
  a1 : 0 ≤ P.p1
  b1 : P.p1 ≤ 255
  a2 : 0 ≤ P.p2
  b2 : P.p2 ≤ 255
  a3 : 0 ≤ P.p3
  b3 : P.p3 ≤ 255
  a4 : -128 ≤ P.p4
  b4 : P.p4 ≤ 127
  a5 : -128 ≤ P.p5
  b5 : P.p5 ≤ 127
  a6 : 0 ≤ P.p6
  b6 : P.p6 ≤ 4294967295
  a7 : 0 ≤ P.p7
  b7 : P.p7 ≤ 4294967295
  a8 : 0 ≤ P.p8
  b8 : P.p8 ≤ 4294967295
  a9 : 0 ≤ P.p9
  b9 : P.p9 ≤ 18446744073709551615
  a10 : 0 ≤ P.p10
  b10 : P.p10 ≤ 18446744073709551615
  a11 : 0 ≤ P.p11
  b11 : P.p11 ≤ 18446744073709551615
  a12 : 0 ≤ P.p12
  b12 : P.p12 ≤ 18446744073709551615
  a15 : 0 ≤ P.p15
  b15 : P.p15 ≤ 4294967295
  a16 : 0 ≤ P.p16
  b16 : P.p16 ≤ 18446744073709551615
def mayS (P : Pk) : Bool := P.s == !decide (P.p15 = 0)
def mayT (P : Pk) : Bool := P.s || decide (P.p16 = 0)
/-- May the packet be? -/
def mayP (P : Pk) (F : List (Int × List Int)) : Bool := mayH P.p0 P.p1 P.p2 && (mayX F && (mayS P && mayT P))
section
variable {P : Pk} {x : AV} {F : List (Int × List Int)} {h : AHeap} {q : Nat}
theorem pmay1_c (hx : x.isCell = true) (hg : Good h) (hq : h[q]? = some ⟨.tip false, .vals (P.l x)⟩) : W CP 85 [.ptr q 0] h = some (.bool (mayH P.p0 P.p1 P.p2), h, []) := by
  refine W_quietP (m := M85) rfl rfl rfl rfl rfl hg ?_
  have e := may_c (p0 := P.p0) (p1 := P.p1) (p2 := P.p2) (p3 := P.p3) (p4 := P.p4) (p5 := P.p5) (p6 := P.p6) (p7 := P.p7) (p8 := P.p8) (p9 := P.p9) (p10 := P.p10) (p11 := P.p11) (p12 := P.p12) (p15 := P.p15) (p16 := P.p16) (s := P.s) hx hg
  have hl := (List.getElem?_eq_some_iff.1 hq).1
  simp only [Pk.l] at hq
  simp (maxDischargeDepth := 9) -implicitDefEqProofs only [push_cast, simprocAttr, M85, nadd1, nadd2, nadd3, nadd4, nadd5, nadd6, nadd7, nadd8, nadd9, nadd10, nadd11, nadd12, hx, hq, hl, e]
  exact quiet_0
theorem pmay2_c (hx : ExtAt h x F) (hxc : x.isCell = true) (hg : Good h) (hF : F.length < 1000000) (hD : ∀ z ∈ F, z.2.length < 1000000000) (hq : h[q]? = some ⟨.tip false, .vals (P.l x)⟩) : W CP 86 [.ptr q 0] h = some (.bool (mayX F), h, []) := by
  refine W_quietP (m := M86) rfl rfl rfl rfl rfl hg ?_
  have e := mayX_c hg hx hF hD
  have hl := (List.getElem?_eq_some_iff.1 hq).1
  have hn := na_slen hx.len
  simp only [Pk.l] at hq
  simp (maxDischargeDepth := 9) -implicitDefEqProofs only [push_cast, simprocAttr, M86, nadd1, nadd2, nadd3, nadd4, nadd5, nadd6, nadd7, nadd8, nadd9, nadd10, nadd11, nadd12, hxc, hq, hl, hn, e]
  exact quiet_0
theorem pmay3_c (hxc : x.isCell = true) (hg : Good h) (hq : h[q]? = some ⟨.tip false, .vals (P.l x)⟩) : W CP 88 [.ptr q 0] h = some (.bool (mayS P), h, []) := by
  refine W_quietP (m := M88) rfl rfl rfl rfl rfl hg ?_
  have hl := (List.getElem?_eq_some_iff.1 hq).1
  simp only [Pk.l] at hq
  unfold mayS
  cases hs : P.s <;> rw [hs] at hq <;> by_cases c : P.p15 = 0
  all_goals
    simp (maxDischargeDepth := 9) -implicitDefEqProofs only [push_cast, simprocAttr, M88, nadd1, nadd2, nadd3, nadd4, nadd5, nadd6, nadd7, nadd8, nadd9, nadd10, nadd11, nadd12, hxc, hq, hl, c]
    exact quiet_0
theorem pmay4_c (hxc : x.isCell = true) (hg : Good h) (hq : h[q]? = some ⟨.tip false, .vals (P.l x)⟩) : W CP 89 [.ptr q 0] h = some (.bool (mayT P), h, []) := by
  refine W_quietP (m := M89) rfl rfl rfl rfl rfl hg ?_
  have hl := (List.getElem?_eq_some_iff.1 hq).1
  simp only [Pk.l] at hq
  unfold mayT
  cases hs : P.s <;> rw [hs] at hq <;> by_cases c : P.p16 = 0
  all_goals
    simp (maxDischargeDepth := 9) -implicitDefEqProofs only [push_cast, simprocAttr, M89, nadd1, nadd2, nadd3, nadd4, nadd5, nadd6, nadd7, nadd8, nadd9, nadd10, nadd11, nadd12, hxc, hq, hl, c]
    exact quiet_0
set_option maxHeartbeats 4000000 in
theorem pmay_c (hx : ExtAt h x F) (hxc : x.isCell = true) (hg : Good h) (hF : F.length < 1000000) (hD : ∀ z ∈ F, z.2.length < 1000000000) : W CP 49 [.agg (P.l x)] h = some (.bool (mayP P F), h, []) := by
  refine W_bothH (m := M49) (fun g => ExtAt g x F) (fun _ => rfl) rfl rfl rfl glG (fun h0 => ?_) (fun g hg hx => ?_) hg hx
  · simp only [AV.lts, AV.lt, Bool.and_eq_true] at h0
    exact hx.gl h0.1.2.2.2.2.2.2.2.2.2.2.2.2.2.1
  · have hn := na_slen hx.len
    simp (maxDischargeDepth := 9) -implicitDefEqProofs only [push_cast, simprocAttr, M49, nadd1, nadd2, nadd3, nadd4, nadd5, nadd6, nadd7, nadd8, nadd9, nadd10, nadd11, nadd12, Pk.l, hxc, hn]
    obtain ⟨H, hH⟩ : ∃ H, g ++ [ABlk.new (.vals (P.l x)), ⟨.tip false, .vals [.fn 85 [.ptr g.length 0], .fn 86 [.ptr g.length 0], .fn 88 [.ptr g.length 0], .fn 89 [.ptr g.length 0]]⟩] = H := ⟨_, rfl⟩
    rw [hH]
    have hG : Good H := by rw [← hH]; exact good_app hg rfl
    have hq : H[g.length]? = some ⟨.tip false, .vals (P.l x)⟩ := by rw [← hH]; exact end_get _ _ _
    have hxH : ExtAt H x F := by rw [← hH]; exact hx.app _
    have e1 := pmay1_c hxc hG hq
    have e2 := pmay2_c hxH hxc hG hF hD hq
    have e3 := pmay3_c hxc hG hq
    have e4 := pmay4_c hxc hG hq
    have hout : Quiet g (.bool (mayP P F)) (.bool (mayP P F), H, []) := by
      rw [← hH]
      exact ⟨rfl, ⟨_, rfl⟩, rfl⟩
    clear hH hxH hq
    refine wp_kRes (wp_kSeq (wp_kBlock ?_))
    refine wp_loop (fun k a h' ws => ∃ i : Int, k = (4 - i).toNat ∧ 0 ≤ i ∧ i ≤ 4 ∧ a = [(11, .agg [.fn 85 [.ptr g.length 0], .fn 86 [.ptr g.length 0], .fn 88 [.ptr g.length 0], .fn 89 [.ptr g.length 0]]), (12, .int .i64 i)] ∧ h' = H ∧ ws = [] ∧ (1 ≤ i → mayH P.p0 P.p1 P.p2 = true) ∧ (2 ≤ i → mayX F = true) ∧ (3 ≤ i → mayS P = true) ∧ (4 ≤ i → mayT P = true)) 4 ?_ ?_
    · refine ⟨0, rfl, by omega, by omega, ?_, rfl, rfl, by omega, by omega, by omega, by omega⟩
      simp (maxDischargeDepth := 9) -implicitDefEqProofs only [push_cast, simprocAttr]
    · rintro k aa h' ws ⟨i, rfl, hi0, hi, rfl, rfl, rfl, t1, t2, t3, t4⟩
      rcases (by omega : i = 0 ∨ i = 1 ∨ i = 2 ∨ i = 3 ∨ i = 4) with rfl | rfl | rfl | rfl | rfl
      · rcases Bool.eq_false_or_eq_true (mayH P.p0 P.p1 P.p2) with c | c <;> rw [c] at e1
        · simp (maxDischargeDepth := 9) -implicitDefEqProofs only [push_cast, simprocAttr, e1]
          refine loop_next 3 (by decide) ⟨1, rfl, by omega, by omega, ?_, rfl, rfl, fun _ => c, by omega, by omega, by omega⟩
          simp (maxDischargeDepth := 9) -implicitDefEqProofs only [push_cast, simprocAttr]
        · have hM : mayP P F = false := by unfold mayP; rw [c]; simp
          rw [hM] at hout
          simp (maxDischargeDepth := 9) -implicitDefEqProofs only [push_cast, simprocAttr, e1, hM]
          exact hout
      · rcases Bool.eq_false_or_eq_true (mayX F) with c | c <;> rw [c] at e2
        · simp (maxDischargeDepth := 9) -implicitDefEqProofs only [push_cast, simprocAttr, e2]
          refine loop_next 2 (by decide) ⟨2, rfl, by omega, by omega, ?_, rfl, rfl, fun _ => t1 (by omega), fun _ => c, by omega, by omega⟩
          simp (maxDischargeDepth := 9) -implicitDefEqProofs only [push_cast, simprocAttr]
        · have hM : mayP P F = false := by unfold mayP; rw [t1 (by omega), c]; simp
          rw [hM] at hout
          simp (maxDischargeDepth := 9) -implicitDefEqProofs only [push_cast, simprocAttr, e2, hM]
          exact hout
      · rcases Bool.eq_false_or_eq_true (mayS P) with c | c <;> rw [c] at e3
        · simp (maxDischargeDepth := 9) -implicitDefEqProofs only [push_cast, simprocAttr, e3]
          refine loop_next 1 (by decide) ⟨3, rfl, by omega, by omega, ?_, rfl, rfl, fun _ => t1 (by omega), fun _ => t2 (by omega), fun _ => c, by omega⟩
          simp (maxDischargeDepth := 9) -implicitDefEqProofs only [push_cast, simprocAttr]
        · have hM : mayP P F = false := by unfold mayP; rw [t1 (by omega), t2 (by omega), c]; simp
          rw [hM] at hout
          simp (maxDischargeDepth := 9) -implicitDefEqProofs only [push_cast, simprocAttr, e3, hM]
          exact hout
      · rcases Bool.eq_false_or_eq_true (mayT P) with c | c <;> rw [c] at e4
        · simp (maxDischargeDepth := 9) -implicitDefEqProofs only [push_cast, simprocAttr, e4]
          refine loop_next 0 (by decide) ⟨4, rfl, by omega, by omega, ?_, rfl, rfl, fun _ => t1 (by omega), fun _ => t2 (by omega), fun _ => t3 (by omega), fun _ => c⟩
          simp (maxDischargeDepth := 9) -implicitDefEqProofs only [push_cast, simprocAttr]
        · have hM : mayP P F = false := by unfold mayP; rw [t1 (by omega), t2 (by omega), t3 (by omega), c]; simp
          rw [hM] at hout
          simp (maxDischargeDepth := 9) -implicitDefEqProofs only [push_cast, simprocAttr, e4, hM]
          exact hout
      · have hM : mayP P F = true := by unfold mayP; rw [t1 (by omega), t2 (by omega), t3 (by omega), t4 (by omega)]; rfl
        rw [hM] at hout
        simp (maxDischargeDepth := 9) -implicitDefEqProofs only [push_cast, simprocAttr, hM]
        exact hout
end
end Go.Proofs.YtdpbbagllhfjbaaDoorW.AI.G
