import Derived.Test.YtdpbbagllhfjbaaDoorAIGoctA
import Derived.Test.YtdpbbagllhfjbaaDoorAITools
namespace Go.Proofs.YtdpbbagllhfjbaaDoorW.AI.G
open Go Go.Proofs.YtdpbbagllhfjbaaDoorW.AI Go.Proofs.YtdpbbagllhfjbaaDoorW.AI.Oct
set_option maxRecDepth 100000
set_option linter.unusedSimpArgs false
set_option linter.unusedVariables false
set_option linter.unusedSectionVars false
theorem dg_cons (i : Nat) (v : Int) : dg (i + 1) v = (v / 256 ^ i % 256) :: dg i v := by
  simp only [dg, List.range_succ_eq_map, List.map_cons, List.map_map]
  refine congr (congrArg List.cons (by simp)) (List.map_congr_left fun k hk => ?_)
  have hk' := List.mem_range.1 hk
  simp only [Function.comp]
  congr 3
  omega
theorem new_one {H : AHeap} (d : Int) : newCells (H ++ [⟨.tip false, .ints .u8 [d]⟩]) (.ints .u8 [0]) (.sl H.length 0 1 1) = some (.ints .u8 [d]) := by
  have hq : (H ++ [(⟨.tip false, .ints .u8 [d]⟩ : ABlk)])[H.length]? = some ⟨.tip false, .ints .u8 [d]⟩ := by simp
  simp [newCells, sliceCells, cellsAt, hq, ACells.len, ACells.sub]
theorem wadd_mem {base : Nat} : ∀ {new ws : List Nat} {b : Nat}, b ∈ wadd base ws new → b ∈ ws ∨ (b ∈ new ∧ b < base)
  | [], ws, b, h => Or.inl h
  | a :: new, ws, b, h => by
    rw [wadd_cons] at h
    rcases wadd_mem h with h | h
    · split at h
      · rename_i hc
        rcases List.mem_append.1 h with h | h
        · exact Or.inl h
        · simp only [List.mem_singleton] at h
          subst h
          exact Or.inr ⟨List.mem_cons_self, hc.1⟩
      · exact Or.inl h
    · exact Or.inr ⟨List.mem_cons_of_mem _ h.1, h.2⟩
theorem addr_no {v : AV} {p n : Nat} (h : blkOf v = some p) (hp : n ≤ p) : v.lt n = false := by
  cases v <;> simp [blkOf] at h
  subst h
  simp [AV.lt]
  omega
end Go.Proofs.YtdpbbagllhfjbaaDoorW.AI.G
namespace Go.Proofs.YtdpbbagllhfjbaaDoorW.AI.G
open Go Go.Proofs.YtdpbbagllhfjbaaDoorW.AI Go.Proofs.YtdpbbagllhfjbaaDoorW.AI.Oct
set_option maxRecDepth 100000
set_option linter.unusedSimpArgs false
set_option linter.unusedVariables false
set_option linter.unusedSectionVars false
def mayH (p0 p1 p2 : Int) : Bool := decide (p0 ≤ 3) && decide (1 ≤ p1) && decide (p1 ≤ 4) && decide (p2 ≤ 7)
theorem gl_good : Good CP.gl := rfl
theorem may_c {p0 p1 p2 p3 p4 p5 p6 p7 p8 p9 p10 p11 p12 p15 p16 : Int} {x : AV} {s : Bool} (hx : x.isCell = true) {h : AHeap} (hg : Good h) : W CP 65 [.agg [.int .u8 p0, .int .u8 p1, .int .u8 p2, .int .u8 p3, .int .i8 p4, .int .i8 p5, .int .u32 p6, .int .u32 p7, .int .u32 p8, .int .u64 p9, .int .u64 p10, .int .u64 p11, .int .u64 p12, x, .bool s, .int .u32 p15, .int .u64 p16]] h = some (.bool (mayH p0 p1 p2), h, []) := by
  refine W_both (m := M65) (fun _ => True) (fun _ => rfl) rfl rfl rfl gl_good trivial (fun g hg _ => ?_) hg trivial
  unfold mayH
  by_cases c1 : p0 ≤ 3 <;> by_cases c2 : 1 ≤ p1 <;> by_cases c3 : p1 ≤ 4 <;> by_cases c4 : p2 ≤ 7
  all_goals simp (maxDischargeDepth := 9) -implicitDefEqProofs only [push_cast, simprocAttr, M65, hx, c1, c2, c3, c4, decide_true, decide_false, Bool.true_and, Bool.false_and, Bool.and_true, Bool.and_false]
  all_goals exact quiet_i
/-- The numbers of a head. -/
def headV (p0 p1 p2 p3 p4 p5 p6 p7 p8 p9 p10 p11 p12 : Int) : List Int := [p0 * 64 + p1 * 8 + p2, p3, p4 % 256, p5 % 256, p6, p7, p8, p9, p10, p11, p12]
def sizesN : List Nat := [1, 1, 1, 1, 4, 4, 4, 8, 8, 8, 8]
end Go.Proofs.YtdpbbagllhfjbaaDoorW.AI.G
namespace Go.Proofs.YtdpbbagllhfjbaaDoorW.AI.G
open Go Go.Proofs.YtdpbbagllhfjbaaDoorW.AI Go.Proofs.YtdpbbagllhfjbaaDoorW.AI.Oct
set_option maxRecDepth 100000
set_option linter.unusedSimpArgs false
set_option linter.unusedVariables false
set_option linter.unusedSectionVars false
/-- The sizes lie where they are laid. -/
def At0 (h : AHeap) : Prop := h[1]? = some ⟨.ext, .ints .i64 sizesL⟩ ∧ 1 < h.length
theorem At0.app {h : AHeap} (a : At0 h) (js : AHeap) : At0 (h ++ js) := ⟨by rw [List.getElem?_append_left a.2]; exact a.1, by simp; have := a.2; omega⟩
theorem at0_gl : At0 CP.gl := ⟨rfl, by decide⟩
def GA (h : AHeap) : Prop := Good h ∧ At0 h
def putJs (bx : ABlk) (V : List Int) (r : Nat) : AHeap := [bx, ⟨.tip false, .ints .u64 V⟩, ⟨.tip false, .vals [.sl r 0 11 11]⟩, ⟨.tip false, .ints .i64 [0]⟩, ⟨.tip false, .ints .u8 (layB sizesN V)⟩]
theorem put_or (a b c : Int) (a0 : 0 ≤ a) (a1 : a ≤ 3) (b0 : 0 ≤ b) (b1 : b ≤ 7) (c0 : 0 ≤ c) (c1 : c ≤ 7) : abits .or .u64 (abits .or .u64 (a * 64) (b * 8)) c = a * 64 + b * 8 + c := by
  rcases (by omega : a = 0 ∨ a = 1 ∨ a = 2 ∨ a = 3) with rfl | rfl | rfl | rfl <;> rcases (by omega : b = 0 ∨ b = 1 ∨ b = 2 ∨ b = 3 ∨ b = 4 ∨ b = 5 ∨ b = 6 ∨ b = 7) with rfl | rfl | rfl | rfl | rfl | rfl | rfl | rfl <;> rcases (by omega : c = 0 ∨ c = 1 ∨ c = 2 ∨ c = 3 ∨ c = 4 ∨ c = 5 ∨ c = 6 ∨ c = 7) with rfl | rfl | rfl | rfl | rfl | rfl | rfl | rfl <;> rfl
set_option maxHeartbeats 8000000 in
theorem hput_key {p0 p1 p2 p3 p4 p5 p6 p7 p8 p9 p10 p11 p12 p15 p16 : Int} {x : AV} {s : Bool} (hx : x.isCell = true) (hm : mayH p0 p1 p2 = true) (q0 : 0 ≤ p0) (q1 : 0 ≤ p1) (q2 : 0 ≤ p2) (q3 : 0 ≤ p3) (r3 : p3 ≤ 255) (q4 : -128 ≤ p4) (r4 : p4 ≤ 127) (q5 : -128 ≤ p5) (r5 : p5 ≤ 127) (q6 : 0 ≤ p6) (r6 : p6 ≤ 4294967295) (q7 : 0 ≤ p7) (r7 : p7 ≤ 4294967295) (q8 : 0 ≤ p8) (r8 : p8 ≤ 4294967295) (q9 : 0 ≤ p9) (r9 : p9 ≤ 18446744073709551615) (q10 : 0 ≤ p10) (r10 : p10 ≤ 18446744073709551615) (q11 : 0 ≤ p11) (r11 : p11 ≤ 18446744073709551615) (q12 : 0 ≤ p12) (r12 : p12 ≤ 18446744073709551615) (g : AHeap) (hg : GA g) :
    Wp (xbody (W CP) M73 [.agg [.int .u8 p0, .int .u8 p1, .int .u8 p2, .int .u8 p3, .int .i8 p4, .int .i8 p5, .int .u32 p6, .int .u32 p7, .int .u32 p8, .int .u64 p9, .int .u64 p10, .int .u64 p11, .int .u64 p12, x, .bool s, .int .u32 p15, .int .u64 p16]] g) fun r => r.1.lt g.length = false ∧ r = (.tup [.sl (g.length + 4) 0 48 48, .int .i64 0], g ++ putJs ⟨.tip false, .vals [.int .u8 p0, .int .u8 p1, .int .u8 p2, .int .u8 p3, .int .i8 p4, .int .i8 p5, .int .u32 p6, .int .u32 p7, .int .u32 p8, .int .u64 p9, .int .u64 p10, .int .u64 p11, .int .u64 p12, x, .bool s, .int .u32 p15, .int .u64 p16]⟩ (headV p0 p1 p2 p3 p4 p5 p6 p7 p8 p9 p10 p11 p12) (g.length + 1), []) := by
  obtain ⟨hg, hat⟩ := hg
  have h0 := hat.1
  have h1 := hat.2
  have h2 : ¬ g.length ≤ 1 := by omega
  have hm' := hm
  simp only [mayH, Bool.and_eq_true, decide_eq_true_eq] at hm'
  obtain ⟨⟨⟨m1, m2⟩, m3⟩, m4⟩ := hm'
  have eM := may_c (p0 := p0) (p1 := p1) (p2 := p2) (p3 := p3) (p4 := p4) (p5 := p5) (p6 := p6) (p7 := p7) (p8 := p8) (p9 := p9) (p10 := p10) (p11 := p11) (p12 := p12) (p15 := p15) (p16 := p16) (s := s) hx (good_app (js := [⟨.tip false, .vals [.int .u8 p0, .int .u8 p1, .int .u8 p2, .int .u8 p3, .int .i8 p4, .int .i8 p5, .int .u32 p6, .int .u32 p7, .int .u32 p8, .int .u64 p9, .int .u64 p10, .int .u64 p11, .int .u64 p12, x, .bool s, .int .u32 p15, .int .u64 p16]⟩]) hg rfl)
  rw [hm] at eM
  obtain ⟨b4, hb4, b41, b42⟩ : ∃ z, p4 % 256 = z ∧ 0 ≤ z ∧ z < 256 := ⟨_, rfl, by omega, by omega⟩
  obtain ⟨b5, hb5, b51, b52⟩ : ∃ z, p5 % 256 = z ∧ 0 ≤ z ∧ z < 256 := ⟨_, rfl, by omega, by omega⟩
  have w0 : IntKind.u64.wrap p0 = p0 := wr_u64 _ (by omega) (by omega)
  have w1 : IntKind.u64.wrap p1 = p1 := wr_u64 _ (by omega) (by omega)
  have w2 : IntKind.u64.wrap p2 = p2 := wr_u64 _ (by omega) (by omega)
  have w3 : IntKind.u64.wrap p3 = p3 := wr_u64 _ (by omega) (by omega)
  have w6 : IntKind.u64.wrap p6 = p6 := wr_u64 _ (by omega) (by omega)
  have w7 : IntKind.u64.wrap p7 = p7 := wr_u64 _ (by omega) (by omega)
  have w8 : IntKind.u64.wrap p8 = p8 := wr_u64 _ (by omega) (by omega)
  have u4 : IntKind.u8.wrap p4 = b4 := hb4
  have u5 : IntKind.u8.wrap p5 = b5 := hb5
  have w4 : IntKind.u64.wrap b4 = b4 := wr_u64 _ (by omega) (by omega)
  have w5 : IntKind.u64.wrap b5 = b5 := wr_u64 _ (by omega) (by omega)
  have x0 : IntKind.u64.wrap (p0 * 64) = p0 * 64 := wr_u64 _ (by omega) (by omega)
  have x1 : IntKind.u64.wrap (p1 * 8) = p1 * 8 := wr_u64 _ (by omega) (by omega)
  have x2 := put_or p0 p1 p2 q0 m1 q1 (by omega) q2 m4
  have hL := lay_ok (h := g ++ [⟨.tip false, .vals [.int .u8 p0, .int .u8 p1, .int .u8 p2, .int .u8 p3, .int .i8 p4, .int .i8 p5, .int .u32 p6, .int .u32 p7, .int .u32 p8, .int .u64 p9, .int .u64 p10, .int .u64 p11, .int .u64 p12, x, .bool s, .int .u32 p15, .int .u64 p16]⟩, ⟨.tip false, .ints .u64 (headV p0 p1 p2 p3 p4 p5 p6 p7 p8 p9 p10 p11 p12)⟩]) (q := 1) (cS := 11) (r := g.length + 1) (cap := 11) (Ls := sizesN) (V := headV p0 p1 p2 p3 p4 p5 p6 p7 p8 p9 p10 p11 p12) (good_app hg rfl) ⟨Or.inl (by rw [List.getElem?_append_left h1]; exact h0), by decide⟩ ⟨Or.inr (by rw [List.getElem?_append_right (by omega)]; simp), by simp [headV]⟩ rfl (by decide) ?_ ?_
  · have hN : headV p0 p1 p2 p3 p4 p5 p6 p7 p8 p9 p10 p11 p12 = [p0 * 64 + p1 * 8 + p2, p3, b4, b5, p6, p7, p8, p9, p10, p11, p12] := by unfold headV; rw [hb4, hb5]
    have hs : sizesN.sum = 48 := rfl
    have hl1 : sizesN.length = 11 := rfl
    have hl2 : (headV p0 p1 p2 p3 p4 p5 p6 p7 p8 p9 p10 p11 p12).length = 11 := rfl
    rw [hs, hl1, hl2, hN] at hL
    rw [hN]
    simp only [List.length_append, List.length_cons, List.length_nil, Nat.add_assoc, Nat.reduceAdd, List.append_assoc, List.cons_append, List.nil_append] at hL
    unfold putJs
    simp (maxDischargeDepth := 9) -implicitDefEqProofs only [push_cast, simprocAttr, M73, nadd1, nadd2, nadd3, nadd4, nadd5, nadd6, nadd7, nadd8, nadd9, nadd10, nadd11, nadd12, hx, eM, h0, h1, h2, w0, w1, w2, w3, w4, w5, w6, w7, w8, u4, u5, x0, x1, x2, hL, sizesL]
    simp [AV.lt, AV.lts]
  · intro v hv
    simp only [headV, List.mem_cons, List.not_mem_nil, or_false] at hv
    rcases hv with rfl | rfl | rfl | rfl | rfl | rfl | rfl | rfl | rfl | rfl | rfl <;> omega
  · intro i s v h1 h2
    have : i < 11 := (List.getElem?_eq_some_iff.1 h1).1
    rcases (by omega : i = 0 ∨ i = 1 ∨ i = 2 ∨ i = 3 ∨ i = 4 ∨ i = 5 ∨ i = 6 ∨ i = 7 ∨ i = 8 ∨ i = 9 ∨ i = 10) with rfl | rfl | rfl | rfl | rfl | rfl | rfl | rfl | rfl | rfl | rfl
    all_goals
      simp only [sizesN, headV, List.getElem?_cons_zero, List.getElem?_cons_succ, Option.some.injEq] at h1 h2
      subst h1 h2
      simp only [Int.reducePow]
      omega
theorem put_c {p0 p1 p2 p3 p4 p5 p6 p7 p8 p9 p10 p11 p12 p15 p16 : Int} {x : AV} {s : Bool} (hx : x.isCell = true) (hm : mayH p0 p1 p2 = true) (q0 : 0 ≤ p0) (q1 : 0 ≤ p1) (q2 : 0 ≤ p2) (q3 : 0 ≤ p3) (r3 : p3 ≤ 255) (q4 : -128 ≤ p4) (r4 : p4 ≤ 127) (q5 : -128 ≤ p5) (r5 : p5 ≤ 127) (q6 : 0 ≤ p6) (r6 : p6 ≤ 4294967295) (q7 : 0 ≤ p7) (r7 : p7 ≤ 4294967295) (q8 : 0 ≤ p8) (r8 : p8 ≤ 4294967295) (q9 : 0 ≤ p9) (r9 : p9 ≤ 18446744073709551615) (q10 : 0 ≤ p10) (r10 : p10 ≤ 18446744073709551615) (q11 : 0 ≤ p11) (r11 : p11 ≤ 18446744073709551615) (q12 : 0 ≤ p12) (r12 : p12 ≤ 18446744073709551615) {h : AHeap} (hg : Good h) (ha : At0 h) :
    W CP 73 [.agg [.int .u8 p0, .int .u8 p1, .int .u8 p2, .int .u8 p3, .int .i8 p4, .int .i8 p5, .int .u32 p6, .int .u32 p7, .int .u32 p8, .int .u64 p9, .int .u64 p10, .int .u64 p11, .int .u64 p12, x, .bool s, .int .u32 p15, .int .u64 p16]] h = some (.tup [.sl (h.length + 4) 0 48 48, .int .i64 0], h ++ putJs ⟨.tip false, .vals [.int .u8 p0, .int .u8 p1, .int .u8 p2, .int .u8 p3, .int .i8 p4, .int .i8 p5, .int .u32 p6, .int .u32 p7, .int .u32 p8, .int .u64 p9, .int .u64 p10, .int .u64 p11, .int .u64 p12, x, .bool s, .int .u32 p15, .int .u64 p16]⟩ (headV p0 p1 p2 p3 p4 p5 p6 p7 p8 p9 p10 p11 p12) (h.length + 1), []) := by
  obtain ⟨r, e, rfl⟩ := W_addr (C := CP) (f := 73) (args := [.agg [.int .u8 p0, .int .u8 p1, .int .u8 p2, .int .u8 p3, .int .i8 p4, .int .i8 p5, .int .u32 p6, .int .u32 p7, .int .u32 p8, .int .u64 p9, .int .u64 p10, .int .u64 p11, .int .u64 p12, x, .bool s, .int .u32 p15, .int .u64 p16]]) (m := M73) GA (fun g r => r = (.tup [.sl (g.length + 4) 0 48 48, .int .i64 0], g ++ putJs ⟨.tip false, .vals [.int .u8 p0, .int .u8 p1, .int .u8 p2, .int .u8 p3, .int .i8 p4, .int .i8 p5, .int .u32 p6, .int .u32 p7, .int .u32 p8, .int .u64 p9, .int .u64 p10, .int .u64 p11, .int .u64 p12, x, .bool s, .int .u32 p15, .int .u64 p16]⟩ (headV p0 p1 p2 p3 p4 p5 p6 p7 p8 p9 p10 p11 p12) (g.length + 1), [])) (fun _ => rfl) rfl rfl ⟨gl_good, at0_gl⟩ (fun g hg => hput_key (p15 := p15) (p16 := p16) (s := s) hx hm q0 q1 q2 q3 r3 q4 r4 q5 r5 q6 r6 q7 r7 q8 r8 q9 r9 q10 r10 q11 r11 q12 r12 g hg) ⟨hg, ha⟩
  exact e
/-- The cells of a head alone. -/
theorem of_c {p0 p1 p2 p3 p4 p5 p6 p7 p8 p9 p10 p11 p12 p15 p16 : Int} {x : AV} {s : Bool} (hx : x.isCell = true) {h : AHeap} (hg : Good h) : W CP 77 [.agg [.int .u8 p0, .int .u8 p1, .int .u8 p2, .int .u8 p3, .int .i8 p4, .int .i8 p5, .int .u32 p6, .int .u32 p7, .int .u32 p8, .int .u64 p9, .int .u64 p10, .int .u64 p11, .int .u64 p12, x, .bool s, .int .u32 p15, .int .u64 p16]] h = some (.agg [.int .u8 p0, .int .u8 p1, .int .u8 p2, .int .u8 p3, .int .i8 p4, .int .i8 p5, .int .u32 p6, .int .u32 p7, .int .u32 p8, .int .u64 p9, .int .u64 p10, .int .u64 p11, .int .u64 p12], h, []) := by
  refine W_both (m := M77) (fun _ => True) (fun _ => rfl) rfl rfl rfl gl_good trivial (fun g hg _ => ?_) hg trivial
  simp (maxDischargeDepth := 9) -implicitDefEqProofs only [push_cast, simprocAttr, M77, nadd1, nadd2, nadd3, nadd4, nadd5, nadd6, nadd7, nadd8, nadd9, nadd10, nadd11, nadd12, hx]
  exact quiet_i
end Go.Proofs.YtdpbbagllhfjbaaDoorW.AI.G
namespace Go.Proofs.YtdpbbagllhfjbaaDoorW.AI.G
open Go Go.Proofs.YtdpbbagllhfjbaaDoorW.AI Go.Proofs.YtdpbbagllhfjbaaDoorW.AI.Oct
set_option maxRecDepth 100000
set_option linter.unusedSimpArgs false
set_option linter.unusedVariables false
set_option linter.unusedSectionVars false
/-- Are two heads the same? -/
def sameH (p0 p1 p2 p3 p4 p5 p6 p7 p8 p9 p10 p11 p12 q0 q1 q2 q3 q4 q5 q6 q7 q8 q9 q10 q11 q12 : Int) : Bool :=
  p0 == q0 && (p1 == q1 && (p2 == q2 && (p3 == q3 && (p4 == q4 && (p5 == q5 && (p6 == q6 && (p7 == q7 && (p8 == q8 && (p9 == q9 && (p10 == q10 && (p11 == q11 && p12 == q12)))))))))))
theorem same_c {p0 p1 p2 p3 p4 p5 p6 p7 p8 p9 p10 p11 p12 p15 p16 q0 q1 q2 q3 q4 q5 q6 q7 q8 q9 q10 q11 q12 q15 q16 : Int} {px qx : AV} {ps qs : Bool} (hp : px.isCell = true) (hq : qx.isCell = true) {h : AHeap} (hg : Good h) :
    W CP 46 [.agg [.int .u8 p0, .int .u8 p1, .int .u8 p2, .int .u8 p3, .int .i8 p4, .int .i8 p5, .int .u32 p6, .int .u32 p7, .int .u32 p8, .int .u64 p9, .int .u64 p10, .int .u64 p11, .int .u64 p12, px, .bool ps, .int .u32 p15, .int .u64 p16], .agg [.int .u8 q0, .int .u8 q1, .int .u8 q2, .int .u8 q3, .int .i8 q4, .int .i8 q5, .int .u32 q6, .int .u32 q7, .int .u32 q8, .int .u64 q9, .int .u64 q10, .int .u64 q11, .int .u64 q12, qx, .bool qs, .int .u32 q15, .int .u64 q16]] h = some (.bool (sameH p0 p1 p2 p3 p4 p5 p6 p7 p8 p9 p10 p11 p12 q0 q1 q2 q3 q4 q5 q6 q7 q8 q9 q10 q11 q12), h, []) := by
  refine W_both (m := M46) (fun _ => True) (fun _ => rfl) rfl rfl rfl gl_good trivial (fun g hg _ => ?_) hg trivial
  have e1 := of_c (p0 := p0) (p1 := p1) (p2 := p2) (p3 := p3) (p4 := p4) (p5 := p5) (p6 := p6) (p7 := p7) (p8 := p8) (p9 := p9) (p10 := p10) (p11 := p11) (p12 := p12) (p15 := p15) (p16 := p16) (s := ps) hp (good_app (js := [⟨.tip false, .vals [.int .u8 p0, .int .u8 p1, .int .u8 p2, .int .u8 p3, .int .i8 p4, .int .i8 p5, .int .u32 p6, .int .u32 p7, .int .u32 p8, .int .u64 p9, .int .u64 p10, .int .u64 p11, .int .u64 p12, px, .bool ps, .int .u32 p15, .int .u64 p16]⟩, ⟨.tip false, .vals [.int .u8 q0, .int .u8 q1, .int .u8 q2, .int .u8 q3, .int .i8 q4, .int .i8 q5, .int .u32 q6, .int .u32 q7, .int .u32 q8, .int .u64 q9, .int .u64 q10, .int .u64 q11, .int .u64 q12, qx, .bool qs, .int .u32 q15, .int .u64 q16]⟩]) hg rfl)
  have e2 := of_c (p0 := q0) (p1 := q1) (p2 := q2) (p3 := q3) (p4 := q4) (p5 := q5) (p6 := q6) (p7 := q7) (p8 := q8) (p9 := q9) (p10 := q10) (p11 := q11) (p12 := q12) (p15 := q15) (p16 := q16) (s := qs) hq (good_app (js := [⟨.tip false, .vals [.int .u8 p0, .int .u8 p1, .int .u8 p2, .int .u8 p3, .int .i8 p4, .int .i8 p5, .int .u32 p6, .int .u32 p7, .int .u32 p8, .int .u64 p9, .int .u64 p10, .int .u64 p11, .int .u64 p12, px, .bool ps, .int .u32 p15, .int .u64 p16]⟩, ⟨.tip false, .vals [.int .u8 q0, .int .u8 q1, .int .u8 q2, .int .u8 q3, .int .i8 q4, .int .i8 q5, .int .u32 q6, .int .u32 q7, .int .u32 q8, .int .u64 q9, .int .u64 q10, .int .u64 q11, .int .u64 q12, qx, .bool qs, .int .u32 q15, .int .u64 q16]⟩]) hg rfl)
  have e3 : scEqs [0, 0, 0, 0, 0, 0, 0, 0, 0, 0, 0, 0, 0] [.int .u8 p0, .int .u8 p1, .int .u8 p2, .int .u8 p3, .int .i8 p4, .int .i8 p5, .int .u32 p6, .int .u32 p7, .int .u32 p8, .int .u64 p9, .int .u64 p10, .int .u64 p11, .int .u64 p12] [.int .u8 q0, .int .u8 q1, .int .u8 q2, .int .u8 q3, .int .i8 q4, .int .i8 q5, .int .u32 q6, .int .u32 q7, .int .u32 q8, .int .u64 q9, .int .u64 q10, .int .u64 q11, .int .u64 q12] = some (sameH p0 p1 p2 p3 p4 p5 p6 p7 p8 p9 p10 p11 p12 q0 q1 q2 q3 q4 q5 q6 q7 q8 q9 q10 q11 q12) := by
    simp [scEqs, scEq, sameH]
  simp (maxDischargeDepth := 9) -implicitDefEqProofs only [push_cast, simprocAttr, M46, nadd1, nadd2, nadd3, nadd4, nadd5, nadd6, nadd7, nadd8, nadd9, nadd10, nadd11, nadd12, hp, hq, e1, e2, e3]
  exact quiet_i
end Go.Proofs.YtdpbbagllhfjbaaDoorW.AI.G
namespace Go.Proofs.YtdpbbagllhfjbaaDoorW.AI.G
open Go Go.Proofs.YtdpbbagllhfjbaaDoorW.AI Go.Proofs.YtdpbbagllhfjbaaDoorW.AI.Oct
set_option maxRecDepth 100000
set_option linter.unusedSimpArgs false
set_option linter.unusedVariables false
set_option linter.unusedSectionVars false
theorem head_fits {p0 p1 p2 p3 p4 p5 p6 p7 p8 p9 p10 p11 p12 : Int} (hm : mayH p0 p1 p2 = true) (pl0 : 0 ≤ p0) (pu0 : p0 ≤ 255) (pl1 : 0 ≤ p1) (pu1 : p1 ≤ 255) (pl2 : 0 ≤ p2) (pu2 : p2 ≤ 255) (pl3 : 0 ≤ p3) (pu3 : p3 ≤ 255) (pl4 : -128 ≤ p4) (pu4 : p4 ≤ 127) (pl5 : -128 ≤ p5) (pu5 : p5 ≤ 127) (pl6 : 0 ≤ p6) (pu6 : p6 ≤ 4294967295) (pl7 : 0 ≤ p7) (pu7 : p7 ≤ 4294967295) (pl8 : 0 ≤ p8) (pu8 : p8 ≤ 4294967295) (pl9 : 0 ≤ p9) (pu9 : p9 ≤ 18446744073709551615) (pl10 : 0 ≤ p10) (pu10 : p10 ≤ 18446744073709551615) (pl11 : 0 ≤ p11) (pu11 : p11 ≤ 18446744073709551615) (pl12 : 0 ≤ p12) (pu12 : p12 ≤ 18446744073709551615) : ∀ (i s : Nat) (v : Int), sizesN[i]? = some s → (headV p0 p1 p2 p3 p4 p5 p6 p7 p8 p9 p10 p11 p12)[i]? = some v → 0 ≤ v ∧ v < 256 ^ s := by
  simp only [mayH, Bool.and_eq_true, decide_eq_true_eq] at hm
  obtain ⟨⟨⟨m1, m2⟩, m3⟩, m4⟩ := hm
  intro i s v h1 h2
  have : i < 11 := (List.getElem?_eq_some_iff.1 h1).1
  rcases (by omega : i = 0 ∨ i = 1 ∨ i = 2 ∨ i = 3 ∨ i = 4 ∨ i = 5 ∨ i = 6 ∨ i = 7 ∨ i = 8 ∨ i = 9 ∨ i = 10) with rfl | rfl | rfl | rfl | rfl | rfl | rfl | rfl | rfl | rfl | rfl
  all_goals
    simp only [sizesN, headV, List.getElem?_cons_zero, List.getElem?_cons_succ, Option.some.injEq] at h1 h2
    subst h1 h2
    simp only [Int.reducePow]
    omega
end Go.Proofs.YtdpbbagllhfjbaaDoorW.AI.G
