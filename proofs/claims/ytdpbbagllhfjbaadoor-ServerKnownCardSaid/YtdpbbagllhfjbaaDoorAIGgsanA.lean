import Derived.Test.YtdpbbagllhfjbaaDoorAIGgsrA
import Derived.Test.YtdpbbagllhfjbaaDoorAITools
namespace Go.Proofs.YtdpbbagllhfjbaaDoorW.AI.G
open Go Go.Proofs.YtdpbbagllhfjbaaDoorW.AI
set_option maxRecDepth 100000
set_option linter.unusedVariables false
set_option linter.unusedSimpArgs false
/-- The table of tests lies where it is laid. -/
def AtT (h : AHeap) : Prop := h[0]? = some ⟨.ext, .vals testsL⟩ ∧ 0 < h.length
theorem AtT.app {h : AHeap} (a : AtT h) (js : AHeap) : AtT (h ++ js) := ⟨by rw [List.getElem?_append_left a.2]; exact a.1, by simp; have := a.2; omega⟩
theorem att_gl : AtT CP.gl := ⟨rfl, by decide⟩
theorem good_glT : Good CP.gl := rfl
def sN (u : Int) : Int := (u * 1000000000 + 65535) / 65536
theorem shortNs_c {u : Int} (u0 : 0 ≤ u) (u1 : u < 4294967296) (h : AHeap) : W CP 44 [.int .u32 u] h = some (.int .i64 (sN u), h, []) := by
  have w0 : IntKind.i64.wrap u = u := wr_i64 _ (by omega) (by omega)
  have w1 : IntKind.i64.wrap (u * 1000000000) = u * 1000000000 := wr_i64 _ (by omega) (by omega)
  have w2 : IntKind.i64.wrap (u * 1000000000 + 65535) = u * 1000000000 + 65535 := wr_i64 _ (by omega) (by omega)
  have d : (u * 1000000000 + 65535).fdiv (2 ^ 16) = sN u := by rw [Int.fdiv_eq_ediv_of_nonneg _ (by decide)]; rfl
  have d' : (u * 1000000000 + 65535).fdiv 65536 = sN u := d
  have w3 : IntKind.i64.wrap (sN u) = sN u := wr_i64 _ (by unfold sN; omega) (by unfold sN; omega)
  refine W_val (m := M44) (fun _ => rfl) rfl rfl rfl ?_ h
  simp (maxDischargeDepth := 9) -implicitDefEqProofs only [push_cast, simprocAttr, M44, w0, w1, w2, d, d', w3]
def rhoV (a b : Int) : Int := (sN a + 1) / 2 + sN b
theorem rho_c {p0 p1 p2 p3 p4 p5 p6 p7 p8 p9 p10 p11 p12 p15 p16 : Int} {x : AV} {s : Bool} (hx : x.isCell = true) (a0 : 0 ≤ p6) (a1 : p6 < 4294967296) (b0 : 0 ≤ p7) (b1 : p7 < 4294967296) {h : AHeap} (hg : Good h) :
    W CP 20 [.agg [.int .u8 p0, .int .u8 p1, .int .u8 p2, .int .u8 p3, .int .i8 p4, .int .i8 p5, .int .u32 p6, .int .u32 p7, .int .u32 p8, .int .u64 p9, .int .u64 p10, .int .u64 p11, .int .u64 p12, x, .bool s, .int .u32 p15, .int .u64 p16]] h = some (.int .i64 (rhoV p6 p7), h, []) := by
  have e1 := fun h => shortNs_c a0 a1 h
  have e2 := fun h => shortNs_c b0 b1 h
  have r1 : 0 ≤ sN p6 ∧ sN p6 < 70000000000000 := by unfold sN; omega
  have r2 : 0 ≤ sN p7 ∧ sN p7 < 70000000000000 := by unfold sN; omega
  unfold rhoV
  obtain ⟨A, hA⟩ : ∃ A, sN p6 = A := ⟨_, rfl⟩
  obtain ⟨B, hB⟩ : ∃ B, sN p7 = B := ⟨_, rfl⟩
  rw [hA] at e1 r1 ⊢
  rw [hB] at e2 r2 ⊢
  have w1 : IntKind.i64.wrap (A + 1) = A + 1 := wr_i64 _ (by omega) (by omega)
  obtain ⟨D, hD⟩ : ∃ D, (A + 1) / 2 = D := ⟨_, rfl⟩
  have d : (A + 1).tdiv 2 = D := by rw [Int.tdiv_eq_ediv_of_nonneg (by omega)]; exact hD
  rw [hD]
  have w2 : IntKind.i64.wrap D = D := wr_i64 _ (by omega) (by omega)
  have w3 : IntKind.i64.wrap (D + B) = D + B := wr_i64 _ (by omega) (by omega)
  refine W_both (m := M20) (fun _ => True) (fun _ => rfl) rfl rfl rfl good_glT trivial (fun g hg _ => ?_) hg trivial
  simp (maxDischargeDepth := 9) -implicitDefEqProofs only [push_cast, simprocAttr, M20, hx, e1, e2, w1, d, w2, w3]
  exact quiet_i
/-- Which test of a packet fails first. -/
def testV (b0 b1 b2 b3 b4 : Bool) : Int := if b0 then 22 else if b1 then 23 else if b2 then 24 else if b3 then 24 else if b4 then 24 else 0
theorem test1_c {p0 p1 p2 p3 p4 p5 p6 p7 p8 p9 p10 p11 p12 p15 p16 : Int} {x : AV} {s : Bool} (hx : x.isCell = true) {h : AHeap} (hg : Good h) : W CP 150 [.agg [.int .u8 p0, .int .u8 p1, .int .u8 p2, .int .u8 p3, .int .i8 p4, .int .i8 p5, .int .u32 p6, .int .u32 p7, .int .u32 p8, .int .u64 p9, .int .u64 p10, .int .u64 p11, .int .u64 p12, x, .bool s, .int .u32 p15, .int .u64 p16]] h = some (.bool (!decide (p2 = 4)), h, []) := by
  refine W_both (m := M150) (fun _ => True) (fun _ => rfl) rfl rfl rfl good_glT trivial (fun g hg _ => ?_) hg trivial
  by_cases c : p2 = 4
  all_goals simp (maxDischargeDepth := 9) -implicitDefEqProofs only [push_cast, simprocAttr, M150, hx, c, decide_true, decide_false, Bool.not_true, Bool.not_false]
  all_goals exact quiet_i
theorem test2_c {p0 p1 p2 p3 p4 p5 p6 p7 p8 p9 p10 p11 p12 p15 p16 : Int} {x : AV} {s : Bool} (hx : x.isCell = true) {h : AHeap} (hg : Good h) : W CP 151 [.agg [.int .u8 p0, .int .u8 p1, .int .u8 p2, .int .u8 p3, .int .i8 p4, .int .i8 p5, .int .u32 p6, .int .u32 p7, .int .u32 p8, .int .u64 p9, .int .u64 p10, .int .u64 p11, .int .u64 p12, x, .bool s, .int .u32 p15, .int .u64 p16]] h = some (.bool (decide (p3 = 0)), h, []) := by
  refine W_both (m := M151) (fun _ => True) (fun _ => rfl) rfl rfl rfl good_glT trivial (fun g hg _ => ?_) hg trivial
  by_cases c : p3 = 0
  all_goals simp (maxDischargeDepth := 9) -implicitDefEqProofs only [push_cast, simprocAttr, M151, hx, c, decide_true, decide_false, Bool.not_true, Bool.not_false]
  all_goals exact quiet_i
theorem test3_c {p0 p1 p2 p3 p4 p5 p6 p7 p8 p9 p10 p11 p12 p15 p16 : Int} {x : AV} {s : Bool} (hx : x.isCell = true) {h : AHeap} (hg : Good h) : W CP 152 [.agg [.int .u8 p0, .int .u8 p1, .int .u8 p2, .int .u8 p3, .int .i8 p4, .int .i8 p5, .int .u32 p6, .int .u32 p7, .int .u32 p8, .int .u64 p9, .int .u64 p10, .int .u64 p11, .int .u64 p12, x, .bool s, .int .u32 p15, .int .u64 p16]] h = some (.bool (decide (p0 = 3) || decide (15 < p3)), h, []) := by
  refine W_both (m := M152) (fun _ => True) (fun _ => rfl) rfl rfl rfl good_glT trivial (fun g hg _ => ?_) hg trivial
  by_cases c : p0 = 3 <;> by_cases d : 15 < p3
  all_goals simp (maxDischargeDepth := 9) -implicitDefEqProofs only [push_cast, simprocAttr, M152, hx, c, d, decide_true, decide_false, Bool.not_true, Bool.not_false, Bool.true_or, Bool.false_or, Bool.or_true, Bool.or_false]
  all_goals exact quiet_i
theorem test4_c {p0 p1 p2 p3 p4 p5 p6 p7 p8 p9 p10 p11 p12 p15 p16 : Int} {x : AV} {s : Bool} (hx : x.isCell = true) {h : AHeap} (hg : Good h) : W CP 153 [.agg [.int .u8 p0, .int .u8 p1, .int .u8 p2, .int .u8 p3, .int .i8 p4, .int .i8 p5, .int .u32 p6, .int .u32 p7, .int .u32 p8, .int .u64 p9, .int .u64 p10, .int .u64 p11, .int .u64 p12, x, .bool s, .int .u32 p15, .int .u64 p16]] h = some (.bool (decide (p11 = 0) || decide (p12 = 0)), h, []) := by
  refine W_both (m := M153) (fun _ => True) (fun _ => rfl) rfl rfl rfl good_glT trivial (fun g hg _ => ?_) hg trivial
  by_cases c : p11 = 0 <;> by_cases d : p12 = 0
  all_goals simp (maxDischargeDepth := 9) -implicitDefEqProofs only [push_cast, simprocAttr, M153, hx, c, d, decide_true, decide_false, Bool.not_true, Bool.not_false, Bool.true_or, Bool.false_or, Bool.or_true, Bool.or_false]
  all_goals exact quiet_i
theorem test5_c {p0 p1 p2 p3 p4 p5 p6 p7 p8 p9 p10 p11 p12 p15 p16 : Int} {x : AV} {s : Bool} (hx : x.isCell = true) (a0 : 0 ≤ p6) (a1 : p6 < 4294967296) (b0 : 0 ≤ p7) (b1 : p7 < 4294967296) {h : AHeap} (hg : Good h) : W CP 154 [.agg [.int .u8 p0, .int .u8 p1, .int .u8 p2, .int .u8 p3, .int .i8 p4, .int .i8 p5, .int .u32 p6, .int .u32 p7, .int .u32 p8, .int .u64 p9, .int .u64 p10, .int .u64 p11, .int .u64 p12, x, .bool s, .int .u32 p15, .int .u64 p16]] h = some (.bool (decide (16000000000 < rhoV p6 p7)), h, []) := by
  refine W_both (m := M154) (fun _ => True) (fun _ => rfl) rfl rfl rfl good_glT trivial (fun g hg _ => ?_) hg trivial
  have er := rho_c (p0 := p0) (p1 := p1) (p2 := p2) (p3 := p3) (p4 := p4) (p5 := p5) (p8 := p8) (p9 := p9) (p10 := p10) (p11 := p11) (p12 := p12) (p15 := p15) (p16 := p16) (s := s) hx a0 a1 b0 b1 (good_app (js := [⟨.tip false, .vals [.int .u8 p0, .int .u8 p1, .int .u8 p2, .int .u8 p3, .int .i8 p4, .int .i8 p5, .int .u32 p6, .int .u32 p7, .int .u32 p8, .int .u64 p9, .int .u64 p10, .int .u64 p11, .int .u64 p12, x, .bool s, .int .u32 p15, .int .u64 p16]⟩]) hg rfl)
  by_cases c : 16000000000 < rhoV p6 p7
  all_goals simp (maxDischargeDepth := 9) -implicitDefEqProofs only [push_cast, simprocAttr, M154, hx, er, c, decide_true, decide_false]
  all_goals exact quiet_i
end Go.Proofs.YtdpbbagllhfjbaaDoorW.AI.G
namespace Go.Proofs.YtdpbbagllhfjbaaDoorW.AI.G
open Go Go.Proofs.YtdpbbagllhfjbaaDoorW.AI
set_option maxRecDepth 100000
set_option linter.unusedVariables false
set_option linter.unusedSimpArgs false
def tB (e : Int) (f : Nat) : ABlk := ⟨.tip false, .vals [.int .i64 e, .fn f []]⟩
def tjs : Nat → List ABlk
  | 0 => []
  | 1 => [⟨.tip false, .vals [.int .i64 22, .fn 150 []]⟩]
  | 2 => [⟨.tip false, .vals [.int .i64 22, .fn 150 []]⟩, ⟨.tip false, .vals [.int .i64 23, .fn 151 []]⟩]
  | 3 => [⟨.tip false, .vals [.int .i64 22, .fn 150 []]⟩, ⟨.tip false, .vals [.int .i64 23, .fn 151 []]⟩, ⟨.tip false, .vals [.int .i64 24, .fn 152 []]⟩]
  | 4 => [⟨.tip false, .vals [.int .i64 22, .fn 150 []]⟩, ⟨.tip false, .vals [.int .i64 23, .fn 151 []]⟩, ⟨.tip false, .vals [.int .i64 24, .fn 152 []]⟩, ⟨.tip false, .vals [.int .i64 24, .fn 153 []]⟩]
  | _ => [⟨.tip false, .vals [.int .i64 22, .fn 150 []]⟩, ⟨.tip false, .vals [.int .i64 23, .fn 151 []]⟩, ⟨.tip false, .vals [.int .i64 24, .fn 152 []]⟩, ⟨.tip false, .vals [.int .i64 24, .fn 153 []]⟩, ⟨.tip false, .vals [.int .i64 24, .fn 154 []]⟩]
set_option maxHeartbeats 2000000 in
theorem test_body {p0 p1 p2 p3 p4 p5 p6 p7 p8 p9 p10 p11 p12 p15 p16 : Int} {x : AV} {s : Bool} (hx : x.isCell = true) {b1 b2 b3 b4 b5 : Bool} (g : AHeap) (hg : Good g) (ha : AtT g)
    (e1 : ∀ h, Good h → W CP 150 [.agg [.int .u8 p0, .int .u8 p1, .int .u8 p2, .int .u8 p3, .int .i8 p4, .int .i8 p5, .int .u32 p6, .int .u32 p7, .int .u32 p8, .int .u64 p9, .int .u64 p10, .int .u64 p11, .int .u64 p12, x, .bool s, .int .u32 p15, .int .u64 p16]] h = some (.bool b1, h, []))
    (e2 : ∀ h, Good h → W CP 151 [.agg [.int .u8 p0, .int .u8 p1, .int .u8 p2, .int .u8 p3, .int .i8 p4, .int .i8 p5, .int .u32 p6, .int .u32 p7, .int .u32 p8, .int .u64 p9, .int .u64 p10, .int .u64 p11, .int .u64 p12, x, .bool s, .int .u32 p15, .int .u64 p16]] h = some (.bool b2, h, []))
    (e3 : ∀ h, Good h → W CP 152 [.agg [.int .u8 p0, .int .u8 p1, .int .u8 p2, .int .u8 p3, .int .i8 p4, .int .i8 p5, .int .u32 p6, .int .u32 p7, .int .u32 p8, .int .u64 p9, .int .u64 p10, .int .u64 p11, .int .u64 p12, x, .bool s, .int .u32 p15, .int .u64 p16]] h = some (.bool b3, h, []))
    (e4 : ∀ h, Good h → W CP 153 [.agg [.int .u8 p0, .int .u8 p1, .int .u8 p2, .int .u8 p3, .int .i8 p4, .int .i8 p5, .int .u32 p6, .int .u32 p7, .int .u32 p8, .int .u64 p9, .int .u64 p10, .int .u64 p11, .int .u64 p12, x, .bool s, .int .u32 p15, .int .u64 p16]] h = some (.bool b4, h, []))
    (e5 : ∀ h, Good h → W CP 154 [.agg [.int .u8 p0, .int .u8 p1, .int .u8 p2, .int .u8 p3, .int .i8 p4, .int .i8 p5, .int .u32 p6, .int .u32 p7, .int .u32 p8, .int .u64 p9, .int .u64 p10, .int .u64 p11, .int .u64 p12, x, .bool s, .int .u32 p15, .int .u64 p16]] h = some (.bool b5, h, [])) :
    Wp (xbody (W CP) M16 [.agg [.int .u8 p0, .int .u8 p1, .int .u8 p2, .int .u8 p3, .int .i8 p4, .int .i8 p5, .int .u32 p6, .int .u32 p7, .int .u32 p8, .int .u64 p9, .int .u64 p10, .int .u64 p11, .int .u64 p12, x, .bool s, .int .u32 p15, .int .u64 p16]] g) (Quiet g (.int .i64 (testV b1 b2 b3 b4 b5))) := by
  have h0 := ha.1
  have h1 := ha.2
  have h2 : ¬ g.length ≤ 0 := by omega
  have hG := fun js (hj : js.all notOld = true) => good_app (js := ⟨.tip false, .vals [.int .u8 p0, .int .u8 p1, .int .u8 p2, .int .u8 p3, .int .i8 p4, .int .i8 p5, .int .u32 p6, .int .u32 p7, .int .u32 p8, .int .u64 p9, .int .u64 p10, .int .u64 p11, .int .u64 p12, x, .bool s, .int .u32 p15, .int .u64 p16]⟩ :: js) hg (by simpa [notOld] using hj)
  have m0 : tjs 0 = [] := rfl
  have m1 : tjs 1 = [⟨.tip false, .vals [.int .i64 22, .fn 150 []]⟩] := rfl
  have m2 : tjs 2 = [⟨.tip false, .vals [.int .i64 22, .fn 150 []]⟩, ⟨.tip false, .vals [.int .i64 23, .fn 151 []]⟩] := rfl
  have m3 : tjs 3 = [⟨.tip false, .vals [.int .i64 22, .fn 150 []]⟩, ⟨.tip false, .vals [.int .i64 23, .fn 151 []]⟩, ⟨.tip false, .vals [.int .i64 24, .fn 152 []]⟩] := rfl
  have m4 : tjs 4 = [⟨.tip false, .vals [.int .i64 22, .fn 150 []]⟩, ⟨.tip false, .vals [.int .i64 23, .fn 151 []]⟩, ⟨.tip false, .vals [.int .i64 24, .fn 152 []]⟩, ⟨.tip false, .vals [.int .i64 24, .fn 153 []]⟩] := rfl
  have m5 : tjs 5 = [⟨.tip false, .vals [.int .i64 22, .fn 150 []]⟩, ⟨.tip false, .vals [.int .i64 23, .fn 151 []]⟩, ⟨.tip false, .vals [.int .i64 24, .fn 152 []]⟩, ⟨.tip false, .vals [.int .i64 24, .fn 153 []]⟩, ⟨.tip false, .vals [.int .i64 24, .fn 154 []]⟩] := rfl
  have f1 := e1 _ (hG (tjs 1) rfl)
  have f2 := e2 _ (hG (tjs 2) rfl)
  have f3 := e3 _ (hG (tjs 3) rfl)
  have f4 := e4 _ (hG (tjs 4) rfl)
  have f5 := e5 _ (hG (tjs 5) rfl)
  rw [m1] at f1
  rw [m2] at f2
  rw [m3] at f3
  rw [m4] at f4
  rw [m5] at f5
  simp (maxDischargeDepth := 9) -implicitDefEqProofs only [push_cast, simprocAttr, M16, hx, h0, h1, h2, testsL]
  refine wp_kRes (wp_kSeq (wp_kBlock ?_))
  refine wp_loop (fun k a h' ws => ∃ i : Nat, k = 5 - i ∧ i ≤ 5 ∧ (1 ≤ i → b1 = false) ∧ (2 ≤ i → b2 = false) ∧ (3 ≤ i → b3 = false) ∧ (4 ≤ i → b4 = false) ∧ (5 ≤ i → b5 = false) ∧ a = [(1, .ptr g.length 0), (5, .agg [.int .i64 22, .fn 150 [], .int .i64 23, .fn 151 [], .int .i64 24, .fn 152 [], .int .i64 24, .fn 153 [], .int .i64 24, .fn 154 []]), (6, .int .i64 (i : Int))] ∧ h' = g ++ (⟨.tip false, .vals [.int .u8 p0, .int .u8 p1, .int .u8 p2, .int .u8 p3, .int .i8 p4, .int .i8 p5, .int .u32 p6, .int .u32 p7, .int .u32 p8, .int .u64 p9, .int .u64 p10, .int .u64 p11, .int .u64 p12, x, .bool s, .int .u32 p15, .int .u64 p16]⟩ :: tjs i) ∧ ws = []) 5 ?_ ?_
  · refine ⟨0, by omega, by omega, by omega, by omega, by omega, by omega, by omega, ?_, rfl, rfl⟩
    simp (maxDischargeDepth := 9) -implicitDefEqProofs only [push_cast, simprocAttr]; try rfl
  · rintro k aa h' ws ⟨i, rfl, hi, q1, q2, q3, q4, q5, rfl, rfl, rfl⟩
    rcases (by omega : i = 0 ∨ i = 1 ∨ i = 2 ∨ i = 3 ∨ i = 4 ∨ i = 5) with rfl | rfl | rfl | rfl | rfl | rfl
    · cases hb : b1 <;> rw [hb] at f1
      · simp (maxDischargeDepth := 9) -implicitDefEqProofs only [push_cast, simprocAttr, m0, hx, f1]
        refine loop_next (5 - 1) (by omega) ⟨1, rfl, by omega, by simp, by omega, by omega, by omega, by omega, ?_, by rw [m1], rfl⟩
        simp (maxDischargeDepth := 9) -implicitDefEqProofs only [push_cast, simprocAttr]; try rfl
      · skip
        simp (maxDischargeDepth := 9) -implicitDefEqProofs only [push_cast, simprocAttr, m0, hx, f1]
        exact quiet_i
    · cases hb : b2 <;> rw [hb] at f2
      · simp (maxDischargeDepth := 9) -implicitDefEqProofs only [push_cast, simprocAttr, m1, hx, f2]
        refine loop_next (5 - 2) (by omega) ⟨2, rfl, by omega, fun _ => q1 (by omega), by simp, by omega, by omega, by omega, ?_, by rw [m2], rfl⟩
        simp (maxDischargeDepth := 9) -implicitDefEqProofs only [push_cast, simprocAttr]; try rfl
      · rw [q1 (by omega)]; skip
        simp (maxDischargeDepth := 9) -implicitDefEqProofs only [push_cast, simprocAttr, m1, hx, f2]
        exact quiet_i
    · cases hb : b3 <;> rw [hb] at f3
      · simp (maxDischargeDepth := 9) -implicitDefEqProofs only [push_cast, simprocAttr, m2, hx, f3]
        refine loop_next (5 - 3) (by omega) ⟨3, rfl, by omega, fun _ => q1 (by omega), fun _ => q2 (by omega), by simp, by omega, by omega, ?_, by rw [m3], rfl⟩
        simp (maxDischargeDepth := 9) -implicitDefEqProofs only [push_cast, simprocAttr]; try rfl
      · rw [q1 (by omega)]; rw [q2 (by omega)]; skip
        simp (maxDischargeDepth := 9) -implicitDefEqProofs only [push_cast, simprocAttr, m2, hx, f3]
        exact quiet_i
    · cases hb : b4 <;> rw [hb] at f4
      · simp (maxDischargeDepth := 9) -implicitDefEqProofs only [push_cast, simprocAttr, m3, hx, f4]
        refine loop_next (5 - 4) (by omega) ⟨4, rfl, by omega, fun _ => q1 (by omega), fun _ => q2 (by omega), fun _ => q3 (by omega), by simp, by omega, ?_, by rw [m4], rfl⟩
        simp (maxDischargeDepth := 9) -implicitDefEqProofs only [push_cast, simprocAttr]; try rfl
      · rw [q1 (by omega)]; rw [q2 (by omega)]; rw [q3 (by omega)]; skip
        simp (maxDischargeDepth := 9) -implicitDefEqProofs only [push_cast, simprocAttr, m3, hx, f4]
        exact quiet_i
    · cases hb : b5 <;> rw [hb] at f5
      · simp (maxDischargeDepth := 9) -implicitDefEqProofs only [push_cast, simprocAttr, m4, hx, f5]
        refine loop_next (5 - 5) (by omega) ⟨5, rfl, by omega, fun _ => q1 (by omega), fun _ => q2 (by omega), fun _ => q3 (by omega), fun _ => q4 (by omega), by simp, ?_, by rw [m5], rfl⟩
        simp (maxDischargeDepth := 9) -implicitDefEqProofs only [push_cast, simprocAttr]; try rfl
      · rw [q1 (by omega)]; rw [q2 (by omega)]; rw [q3 (by omega)]; rw [q4 (by omega)]; skip
        simp (maxDischargeDepth := 9) -implicitDefEqProofs only [push_cast, simprocAttr, m4, hx, f5]
        exact quiet_i
    · rw [q1 (by omega), q2 (by omega), q3 (by omega), q4 (by omega), q5 (by omega)]
      simp (maxDischargeDepth := 9) -implicitDefEqProofs only [push_cast, simprocAttr, m5]
      exact quiet_i
theorem test_c {p0 p1 p2 p3 p4 p5 p6 p7 p8 p9 p10 p11 p12 p15 p16 : Int} {x : AV} {s : Bool} (hx : x.isCell = true) (a0 : 0 ≤ p6) (a1 : p6 < 4294967296) (b0 : 0 ≤ p7) (b1 : p7 < 4294967296) {h : AHeap} (hg : Good h) (ha : AtT h) :
    W CP 16 [.agg [.int .u8 p0, .int .u8 p1, .int .u8 p2, .int .u8 p3, .int .i8 p4, .int .i8 p5, .int .u32 p6, .int .u32 p7, .int .u32 p8, .int .u64 p9, .int .u64 p10, .int .u64 p11, .int .u64 p12, x, .bool s, .int .u32 p15, .int .u64 p16]] h = some (.int .i64 (testV (!decide (p2 = 4)) (decide (p3 = 0)) (decide (p0 = 3) || decide (15 < p3)) (decide (p11 = 0) || decide (p12 = 0)) (decide (16000000000 < rhoV p6 p7))), h, []) :=
  W_both (m := M16) AtT (fun _ => rfl) rfl rfl rfl good_glT att_gl (fun g hg ha => test_body hx g hg ha (fun h hg => test1_c hx hg) (fun h hg => test2_c hx hg) (fun h hg => test3_c hx hg) (fun h hg => test4_c hx hg) (fun h hg => test5_c hx a0 a1 b0 b1 hg)) hg ha
end Go.Proofs.YtdpbbagllhfjbaaDoorW.AI.G
namespace Go.Proofs.YtdpbbagllhfjbaaDoorW.AI.G
open Go Go.Proofs.YtdpbbagllhfjbaaDoorW.AI
set_option maxRecDepth 100000
set_option linter.unusedVariables false
set_option linter.unusedSimpArgs false
theorem trimByte_c (l : List UInt8) (hl : l.length < 1000000) (h : AHeap) : W CP 81 [.str (sb l), .int .u8 0] h = some (.str (sb (trimz l)), h, []) := by
  refine W_val (m := M81) (fun _ => rfl) rfl rfl rfl ?_ h
  simp (maxDischargeDepth := 9) -implicitDefEqProofs only [push_cast, simprocAttr, M81]
  refine wp_kRes (wp_kSeq (wp_kBlock ?_))
  refine wp_loop (fun k a h' ws => ∃ m : List UInt8, k = m.length ∧ m.length ≤ l.length ∧ trimz m = trimz l ∧ a = [(0, .str (sb m)), (1, .int .u8 0)] ∧ h' = CP.gl ∧ ws = []) l.length ?_ ?_
  · refine ⟨l, rfl, Nat.le_refl _, rfl, ?_, rfl, rfl⟩
    simp (maxDischargeDepth := 9) -implicitDefEqProofs only [push_cast, simprocAttr]; try rfl
  · rintro k aa h' ws ⟨m, rfl, hm, ht, rfl, rfl, rfl⟩
    rcases List.eq_nil_or_concat m with rfl | ⟨n, x, rfl⟩
    · simp (maxDischargeDepth := 9) -implicitDefEqProofs only [push_cast, simprocAttr, sb_size, List.length_nil]
      rw [← ht, trimz_nil]
    · simp only [List.concat_eq_append] at *
      obtain ⟨q, hq⟩ : ∃ q, n.length = q := ⟨_, rfl⟩
      have hs : (sb (n ++ [x])).size = q + 1 := by rw [sb_size]; simp [hq]
      have hc : (((q + 1 : Nat)) : Int) = (q : Int) + 1 := by omega
      have hlt : q < 1000000 := by simp only [List.length_append, List.length_cons, List.length_nil] at hm; omega
      have w1 : IntKind.i64.wrap ((q : Int) + 1 - 1) = (q : Int) := by rw [wr_i64 _ (by omega) (by omega)]; omega
      have g0 : (0 : Int) < (q : Int) + 1 := by omega
      have hx : (n ++ [x])[q]? = some x := by rw [List.getElem?_append_right (by omega)]; simp [hq]
      have he : (n ++ [x]).take q = n := by rw [List.take_append_of_le_length (by omega), ← hq, List.take_length]
      have hle : q ≤ q + 1 := by omega
      by_cases hz : x = 0
      · subst hz
        have z : (((0 : UInt8).toNat : Nat) : Int) = 0 := rfl
        simp (maxDischargeDepth := 9) -implicitDefEqProofs only [push_cast, simprocAttr, sb_list, sb_extract, hs, g0, w1, hx, z, he, hle]
        refine loop_next q (by simp [hq]) ⟨n, hq.symm, by simp only [List.length_append, List.length_cons, List.length_nil] at hm; omega, by rw [← ht, trimz_zero], ?_, rfl, rfl⟩
        simp (maxDischargeDepth := 9) -implicitDefEqProofs only [push_cast, simprocAttr]; try rfl
      · have z : ¬ ((x.toNat : Nat) : Int) = 0 := fun e => hz (u8_zero.1 e)
        simp (maxDischargeDepth := 9) -implicitDefEqProofs only [push_cast, simprocAttr, sb_list, sb_extract, hs, g0, w1, hx, z]
        rw [← ht, trimz_snoc _ hz]
theorem sb_zero : (⟨#[0]⟩ : ByteArray) = sb [0] := rfl
theorem sb_none : (⟨#[]⟩ : ByteArray) = sb [] := rfl
theorem list_beq (a b : List UInt8) : (a == b) = decide (a = b) := by
  rw [Bool.eq_iff_iff]; simp
theorem trimRight_c (l : List UInt8) (hl : l.length < 1000000) (h : AHeap) : W CP 48 [.str (sb l), .str (sb [0])] h = some (.str (sb (trimz l)), h, []) := by
  have e := fun h => trimByte_c l hl h
  refine W_val (m := M48) (fun _ => rfl) rfl rfl rfl ?_ h
  have z : (((0 : UInt8).toNat : Nat) : Int) = 0 := rfl
  by_cases hn : l = []
  · subst hn
    simp (maxDischargeDepth := 9) -implicitDefEqProofs only [push_cast, simprocAttr, M48, sb_none, sb_toList, list_beq, decide_true, decide_false, List.length_cons, List.length_nil, sb_size, sb_list, List.getElem?_cons_zero, z]
    rw [trimz_nil]
  · simp (maxDischargeDepth := 9) -implicitDefEqProofs only [push_cast, simprocAttr, M48, sb_none, sb_toList, list_beq, hn, decide_true, decide_false, reduceCtorEq, List.length_cons, List.length_nil, sb_size, sb_list, List.getElem?_cons_zero, z, e]
/-- The code of a kiss. -/
def by8 (n : Int) : UInt8 := UInt8.ofNat n.toNat
def kissL (p : Int) : List UInt8 := [by8 (p / 16777216), by8 (p / 65536 % 256), by8 (p / 256 % 256), by8 (p % 256)]
def kissV (p : Int) : List UInt8 := trimz (kissL p)
theorem kiss_c {p0 p1 p2 p3 p4 p5 p6 p7 p8 p9 p10 p11 p12 p15 p16 : Int} {x : AV} {s : Bool} (hx : x.isCell = true) (a0 : 0 ≤ p8) (a1 : p8 < 4294967296) {h : AHeap} (hg : Good h) :
    W CP 23 [.agg [.int .u8 p0, .int .u8 p1, .int .u8 p2, .int .u8 p3, .int .i8 p4, .int .i8 p5, .int .u32 p6, .int .u32 p7, .int .u32 p8, .int .u64 p9, .int .u64 p10, .int .u64 p11, .int .u64 p12, x, .bool s, .int .u32 p15, .int .u64 p16]] h = some (if p3 = 0 then .tup [.str (sb (kissV p8)), .bool true] else .tup [.str (sb []), .bool false], h, []) := by
  have e := fun h => trimRight_c (kissL p8) (by unfold kissL; simp) h
  unfold kissL at e
  have d1 : p8.fdiv (2 ^ 24) = p8 / 16777216 := by rw [Int.fdiv_eq_ediv_of_nonneg _ (by decide)]; rfl
  have d2 : p8.fdiv (2 ^ 16) = p8 / 65536 := by rw [Int.fdiv_eq_ediv_of_nonneg _ (by decide)]; rfl
  have d3 : p8.fdiv (2 ^ 8) = p8 / 256 := by rw [Int.fdiv_eq_ediv_of_nonneg _ (by decide)]; rfl
  have d1' : p8.fdiv 16777216 = p8 / 16777216 := d1
  have d2' : p8.fdiv 65536 = p8 / 65536 := d2
  have d3' : p8.fdiv 256 = p8 / 256 := d3
  obtain ⟨A, hA⟩ : ∃ A, p8 / 16777216 = A := ⟨_, rfl⟩
  obtain ⟨B, hB⟩ : ∃ A, p8 / 65536 = A := ⟨_, rfl⟩
  obtain ⟨C, hC⟩ : ∃ A, p8 / 256 = A := ⟨_, rfl⟩
  obtain ⟨B', hB'⟩ : ∃ A, B % 256 = A := ⟨_, rfl⟩
  obtain ⟨C', hC'⟩ : ∃ A, C % 256 = A := ⟨_, rfl⟩
  obtain ⟨D', hD'⟩ : ∃ A, p8 % 256 = A := ⟨_, rfl⟩
  have x1 : IntKind.u32.wrap A = A := wr_u32 _ (by omega) (by omega)
  have x2 : IntKind.u32.wrap B = B := wr_u32 _ (by omega) (by omega)
  have x3 : IntKind.u32.wrap C = C := wr_u32 _ (by omega) (by omega)
  have y1 : IntKind.u8.wrap A = A := wr_u8 _ (by omega) (by omega)
  have y2 : IntKind.u8.wrap B = B' := hB'
  have y3 : IntKind.u8.wrap C = C' := hC'
  have y4 : IntKind.u8.wrap p8 = D' := hD'
  rw [hA, hB, hC, hB', hC', hD'] at e
  have b4 : bytesOf (.ints .u8 [A, B', C', D']) = some (sb [by8 A, by8 B', by8 C', by8 D']) := rfl
  have hcv : kissV p8 = trimz [by8 A, by8 B', by8 C', by8 D'] := by unfold kissV kissL; rw [hA, hB, hC, hB', hC', hD']
  rw [hcv]
  refine W_both (m := M23) (fun _ => True) (fun _ => rfl) rfl rfl (by split <;> rfl) good_glT trivial (fun g hg _ => ?_) hg trivial
  have hs : ∀ a : ABlk, sliceCells (g ++ [a, ⟨.tip false, .ints .u8 [A, B', C', D']⟩]) 1 (.sl (g.length + 1) 0 4 4) = some (.ints .u8 [A, B', C', D']) := by
    intro a
    have hq : (g ++ [a, ⟨.tip false, .ints .u8 [A, B', C', D']⟩])[g.length + 1]? = some ⟨.tip false, .ints .u8 [A, B', C', D']⟩ := by rw [List.getElem?_append_right (by omega)]; simp
    simp [sliceCells, cellsAt, hq, ACells.len, ACells.sub]
  by_cases c : p3 = 0
  · subst c
    rw [if_pos rfl]
    simp (maxDischargeDepth := 9) -implicitDefEqProofs only [push_cast, simprocAttr, M23, nadd1, nadd2, nadd3, nadd4, nadd5, nadd6, nadd7, nadd8, nadd9, nadd10, nadd11, nadd12, hx, d1, d2, d3, d1', d2', d3', hA, hB, hC, x1, x2, x3, y1, y2, y3, y4, b4, hs, sb_zero, sb_none, e]
    exact quiet_i
  · rw [if_neg c]
    simp (maxDischargeDepth := 9) -implicitDefEqProofs only [push_cast, simprocAttr, M23, hx, c, sb_none]
    exact quiet_i
end Go.Proofs.YtdpbbagllhfjbaaDoorW.AI.G
