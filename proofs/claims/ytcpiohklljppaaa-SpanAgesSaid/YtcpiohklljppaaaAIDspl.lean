import Derived.Test.YtcpiohklljppaaaAIDspr2
import Derived.Test.YtcpiohklljppaaaAIDlawk
namespace Go.Proofs.YtcpiohklljppaaaW.AI.D
open Go Go.Proofs.YtcpiohklljppaaaW.AI
set_option maxRecDepth 100000
set_option linter.unusedSimpArgs false
set_option linter.unusedVariables false
set_option linter.unusedSectionVars false
theorem andM {m : Nat} (hm : m < 9223372036854775808) (a : Int) : 0 ≤ abits .and .i64 a (m : Int) ∧ abits .and .i64 a (m : Int) ≤ (m : Int) := by
  have e : ((BitVec.ofInt IntKind.i64.bits a &&& BitVec.ofInt IntKind.i64.bits (m : Int)).toNat : Int) ≤ (m : Int) := by
    have h1 : (BitVec.ofInt IntKind.i64.bits a &&& BitVec.ofInt IntKind.i64.bits (m : Int)).toNat = (BitVec.ofInt IntKind.i64.bits a).toNat &&& m := by
      have : (BitVec.ofInt IntKind.i64.bits (m : Int)).toNat = m := by
        rw [BitVec.ofInt_natCast, BitVec.toNat_ofNat]
        exact Nat.mod_eq_of_lt (Nat.lt_of_lt_of_le hm (by decide))
      rw [BitVec.toNat_and, this]
    rw [h1]
    have := Nat.and_le_right (n := (BitVec.ofInt IntKind.i64.bits a).toNat) (m := m)
    omega
  have e0 : (0 : Int) ≤ ((BitVec.ofInt IntKind.i64.bits a &&& BitVec.ofInt IntKind.i64.bits (m : Int)).toNat : Int) := Int.natCast_nonneg _
  have : abits .and .i64 a (m : Int) = ((BitVec.ofInt IntKind.i64.bits a &&& BitVec.ofInt IntKind.i64.bits (m : Int)).toNat : Int) := by
    have e1 : abits .and .i64 a (m : Int) = IntKind.i64.wrap ((BitVec.ofInt IntKind.i64.bits a &&& BitVec.ofInt IntKind.i64.bits (m : Int)).toNat : Int) := rfl
    rw [e1]
    exact wr_i64 _ (by omega) (by omega)
  rw [this]
  exact ⟨e0, e⟩
theorem Of_nil (h : AHeap) : W CP 18 [.nilp, .int .i64 0, .int .i64 0, .int .i64 0, .int .i64 0, .int .i64 0] h = some (.tup [spA 0 0 0, .int .i64 2], h, []) := W_known (n := 200) (fun _ => rfl) (by kernel_rfl) h
theorem Up_nil (h : AHeap) : W CP 19 [.nilp, .int .i64 5] h = some (.int .i64 0, h, []) := W_known (n := 200) (fun _ => rfl) (by kernel_rfl) h
theorem Down_nil (h : AHeap) : W CP 20 [.nilp, .int .i64 5] h = some (.int .i64 0, h, []) := W_known (n := 200) (fun _ => rfl) (by kernel_rfl) h
theorem aw19 (h : AHeap) : W CP 17 [] h = some (.bool true, h, []) := W_known (n := 200) (fun _ => rfl) (by kernel_rfl) h
theorem of_out (P Q : Prop) [Decidable P] [Decidable Q] (a b c : Int) : ∃ s0 s1 s2 e : Int, (if P then (if Q then AV.tup [spA a b c, .int .i64 0] else .tup [spA 0 0 0, .int .i64 30]) else .tup [spA 0 0 0, .int .i64 1]) = .tup [spA s0 s1 s2, .int .i64 e] := by
  split
  · split <;> exact ⟨_, _, _, _, rfl⟩
  · exact ⟨_, _, _, _, rfl⟩
theorem age_out (P : Prop) [Decidable P] (a b c : Int) : ∃ s0 s1 s2 e : Int, (if P then AV.tup [spA a b c, .int .i64 0] else .tup [spA 0 0 0, .int .i64 1]) = .tup [spA s0 s1 s2, .int .i64 e] := by
  split <;> exact ⟨_, _, _, _, rfl⟩
theorem meet_out (P : Prop) [Decidable P] (a b c : Int) : ∃ (s0 s1 s2 : Int) (e : Bool), (if P then AV.tup [spA a b c, .bool true] else .tup [spA 0 0 0, .bool false]) = .tup [spA s0 s1 s2, .bool e] := by
  split <;> exact ⟨_, _, _, _, rfl⟩
set_option maxHeartbeats 8000000 in
theorem rules_body (g : AHeap) (hg : Good g) (t f x0 x1 x2 x3 x4 : Int) :
    Wp (xbody (W CP) M3 [.int .i64 t, .int .i64 f, .agg [.int .i64 x0, .int .i64 x1, .int .i64 x2, .int .i64 x3, .int .i64 x4]] g) fun r => r.1 = .bool true := by
  have aw := fun h => aw19 h
  by_cases hb : t < 1 ∨ 1000000000 < t ∨ f < 0 ∨ 500000 < f
  · have e1 := fun h => span_New_bad hb h
    have e2 := fun h => ref_New_bad hb h
    have e3 := fun h => Of_nil h
    have e4 := fun h => Up_nil h
    have e5 := fun h => Down_nil h
    simp (maxDischargeDepth := 9) -implicitDefEqProofs only [push_cast, simprocAttr, M3, aw, e1, e2, e3, e4, e5]
  · have e1 := fun h => span_New (t := t) (f := f) (by omega) (by omega) (by omega) (by omega) h
    have e2 := fun h => ref_New (t := t) (f := f) (by omega) (by omega) (by omega) (by omega) h
    have hG := fun js (hj : js.all notOld = true) => good_app (js := ⟨.tip false, .ints .i64 [x0, x1, x2, x3, x4]⟩ :: ⟨.tip false, .vals [.int .i64 t, .int .i64 f, .bool true]⟩ :: ⟨.tip false, .ints .i64 [t, f]⟩ :: js) hg (by simpa [notOld] using hj)
    have hR := fun js => show Rul (g ++ (⟨.tip false, .ints .i64 [x0, x1, x2, x3, x4]⟩ :: ⟨.tip false, .vals [.int .i64 t, .int .i64 f, .bool true]⟩ :: ⟨.tip false, .ints .i64 [t, f]⟩ :: js)) (g.length + 1) t f from
      ⟨by rw [List.getElem?_append_right (by omega)]; simp, by simp, by omega, by omega, by omega, by omega⟩
    have hQ := fun js => show RulR (g ++ (⟨.tip false, .ints .i64 [x0, x1, x2, x3, x4]⟩ :: ⟨.tip false, .vals [.int .i64 t, .int .i64 f, .bool true]⟩ :: ⟨.tip false, .ints .i64 [t, f]⟩ :: js)) (g.length + 2) t f from
      ⟨by rw [List.getElem?_append_right (by omega)]; simp, by simp, by omega, by omega, by omega, by omega⟩
    have eA := Ruler_Of (left := x0) (came := x1) (took := x2) (gave := x3) (rho := x4) (hG [] rfl) (hR _)
    have eB := fun b1 => ref_Of (left := x0) (came := x1) (took := x2) (gave := x3) (rho := x4) (hG [⟨.tip false, b1⟩] rfl) (hQ _)
    obtain ⟨s0, s1, s2, e, hs⟩ := of_out (([x0, x1, x2, x3, x4].all okT) = true ∧ x0 ≤ x1) (ofLo x3 x4 ≤ ofHi t f x0 x1 x2 x4) x1 (ofLo x3 x4) (ofHi t f x0 x1 x2 x4)
    rw [hs] at eA
    simp only [hs] at eB
    have u1 := fun b1 b2 x => Ruler_Up (x := x) (hG [⟨.tip false, b1⟩, ⟨.tip false, b2⟩] rfl) (hR _)
    have u2 := fun b1 b2 x => ref_Up (x := x) (hG [⟨.tip false, b1⟩, ⟨.tip false, b2⟩] rfl) (hQ _)
    have d1 := fun b1 b2 x => Ruler_Down (x := x) (hG [⟨.tip false, b1⟩, ⟨.tip false, b2⟩] rfl) (hR _)
    have d2 := fun b1 b2 x => ref_Down (x := x) (hG [⟨.tip false, b1⟩, ⟨.tip false, b2⟩] rfl) (hQ _)
    have hs5 : scEqs [0, 0, 0] [.int .i64 s0, .int .i64 s1, .int .i64 s2] [.int .i64 s0, .int .i64 s1, .int .i64 s2] = some true := scEqs3_same _ _ _ _
    have hlo : ∀ n : Nat, ¬ g.length + (n + 1) ≤ g.length := by omega
    simp (maxDischargeDepth := 9) -implicitDefEqProofs only [push_cast, simprocAttr, M3, aw, e1, e2, eA, eB, u1, u2, d1, d2, hs5, hlo, decide_false, Bool.not_false, Bool.and_true]
set_option maxHeartbeats 8000000 in
theorem ages_body (g : AHeap) (hg : Good g) (a0 a1 a2 b0 b1 b2 x0 x1 x2 x3 x4 : Int) :
    Wp (xbody (W CP) M14 [spA a0 a1 a2, spA b0 b1 b2, .agg [.int .i64 x0, .int .i64 x1, .int .i64 x2, .int .i64 x3, .int .i64 x4]] g) fun r => r.1 = .bool true := by
  have aw := fun h => aw19 h
  have k0 : 0 ≤ abits .and .i64 x0 536870911 ∧ abits .and .i64 x0 536870911 ≤ 536870911 := andM (m := 536870911) (by decide) x0
  have k2 : 0 ≤ abits .and .i64 x1 262143 ∧ abits .and .i64 x1 262143 ≤ 262143 := andM (m := 262143) (by decide) x1
  obtain ⟨y, hy⟩ : ∃ y, abits .and .i64 x0 536870911 = y := ⟨_, rfl⟩
  obtain ⟨f, hf⟩ : ∃ y, abits .and .i64 x1 262143 = y := ⟨_, rfl⟩
  rw [hy] at k0
  rw [hf] at k2
  have w1 : IntKind.i64.wrap (1 + y) = 1 + y := wr_i64 _ (by omega) (by omega)
  obtain ⟨t, ht⟩ : ∃ t, 1 + y = t := ⟨_, rfl⟩
  rw [ht] at w1
  have w1' : IntKind.i64.wrap (1 + y) = t := by rw [ht]; exact w1
  have e1 := fun h => span_New (t := t) (f := f) (by omega) (by omega) (by omega) (by omega) h
  have e2 := fun h => ref_New (t := t) (f := f) (by omega) (by omega) (by omega) (by omega) h
  have hG := fun js (hj : js.all notOld = true) => good_app (js := ⟨.tip false, .ints .i64 [a0, a1, a2]⟩ :: ⟨.tip false, .ints .i64 [b0, b1, b2]⟩ :: ⟨.tip false, .ints .i64 [x0, x1, x2, x3, x4]⟩ :: ⟨.tip false, .vals [.int .i64 t, .int .i64 f, .bool true]⟩ :: ⟨.tip false, .ints .i64 [t, f]⟩ :: js) hg (by simpa [notOld] using hj)
  have hR := fun js => show Rul (g ++ (⟨.tip false, .ints .i64 [a0, a1, a2]⟩ :: ⟨.tip false, .ints .i64 [b0, b1, b2]⟩ :: ⟨.tip false, .ints .i64 [x0, x1, x2, x3, x4]⟩ :: ⟨.tip false, .vals [.int .i64 t, .int .i64 f, .bool true]⟩ :: ⟨.tip false, .ints .i64 [t, f]⟩ :: js)) (g.length + 3) t f from
    ⟨by rw [List.getElem?_append_right (by omega)]; simp, by simp, by omega, by omega, by omega, by omega⟩
  have hQ := fun js => show RulR (g ++ (⟨.tip false, .ints .i64 [a0, a1, a2]⟩ :: ⟨.tip false, .ints .i64 [b0, b1, b2]⟩ :: ⟨.tip false, .ints .i64 [x0, x1, x2, x3, x4]⟩ :: ⟨.tip false, .vals [.int .i64 t, .int .i64 f, .bool true]⟩ :: ⟨.tip false, .ints .i64 [t, f]⟩ :: js)) (g.length + 4) t f from
    ⟨by rw [List.getElem?_append_right (by omega)]; simp, by simp, by omega, by omega, by omega, by omega⟩
  have eA := Ruler_Age (a := a0) (l := a1) (u := a2) (raw := x2) (hG [] rfl) (hR _)
  have eB := fun b1 => ref_Age (a := a0) (l := a1) (u := a2) (raw := x2) (hG [⟨.tip false, b1⟩] rfl) (hQ _)
  obtain ⟨s0, s1, s2, e, hs⟩ := age_out (mayS a0 a1 a2 = true ∧ a0 ≤ x2 ∧ x2 ≤ 4611686018427387904) x2 (bro (a1 + downV t f (x2 - a0))) (bro (a2 + upV t f (x2 - a0)))
  rw [hs] at eA
  simp only [hs] at eB
  have eM := fun h => span_Meet (a := a0) (l := a1) (u := a2) (a' := b0) (l' := b1) (u' := b2) h
  have eN := fun h => ref_Meet (a := a0) (l := a1) (u := a2) (a' := b0) (l' := b1) (u' := b2) h
  obtain ⟨m0, m1, m2, q, hm⟩ := meet_out (meetB a0 a1 a2 b0 b1 b2 = true) a0 (mx a1 b1) (mn a2 b2)
  simp only [hm] at eM eN
  have e3 := fun h => span_May (a := a0) (l := a1) (u := a2) h
  have e4 := fun h => ref_May (a := a0) (l := a1) (u := a2) h
  have e5 := fun h => span_Mid (a := a0) (l := a1) (u := a2) h
  have e6 := fun h => ref_Mid (a := a0) (l := a1) (u := a2) h
  have e7 := fun h => span_Width (a := a0) (l := a1) (u := a2) h
  have e8 := fun h => span_Has (a := a0) (l := a1) (u := a2) (t := x3) h
  have hs5 : scEqs [0, 0, 0] [.int .i64 s0, .int .i64 s1, .int .i64 s2] [.int .i64 s0, .int .i64 s1, .int .i64 s2] = some true := scEqs3_same _ _ _ _
  have hm5 : scEqs [0, 0, 0] [.int .i64 m0, .int .i64 m1, .int .i64 m2] [.int .i64 m0, .int .i64 m1, .int .i64 m2] = some true := scEqs3_same _ _ _ _
  have hlo : ∀ n : Nat, ¬ g.length + (n + 1) ≤ g.length := by omega
  obtain ⟨mi, hmi⟩ : ∃ mi, midS a0 a1 a2 = mi := ⟨_, rfl⟩
  rw [hmi] at e5 e6
  unfold widS at e7
  unfold hasS at e8
  cases hM : mayS a0 a1 a2 with
  | false =>
    rw [hM] at e3 e4
    simp only [hM, Bool.false_and, Bool.false_eq_true, if_false] at e7 e8
    cases q
    all_goals
      simp (maxDischargeDepth := 9) -implicitDefEqProofs only [push_cast, simprocAttr, M14, aw, hy, hf, w1, w1', e1, e2, eA, eB, eM, eN, e3, e4, e5, e6, e7, e8, hs5, hm5, hlo, decide_false, Bool.not_false, Bool.and_true]
  | true =>
    rw [hM] at e3 e4
    simp only [hM, Bool.true_and, if_true] at e7 e8
    have hmm := mayS_iff.1 hM
    have w2 : IntKind.i64.wrap (a2 - a1) = a2 - a1 := wr_i64 _ (by omega) (by omega)
    by_cases c1 : a1 ≤ x3
    · by_cases c2 : x3 ≤ a2
      · rw [decide_eq_true c1, decide_eq_true c2] at e8
        cases q
        all_goals
          simp (maxDischargeDepth := 9) -implicitDefEqProofs only [push_cast, simprocAttr, M14, aw, hy, hf, w1, w1', e1, e2, eA, eB, eM, eN, e3, e4, e5, e6, e7, e8, w2, c1, c2, hs5, hm5, hlo, decide_false, Bool.not_false, Bool.and_true]
      · rw [decide_eq_true c1, decide_eq_false c2] at e8
        cases q
        all_goals
          simp (maxDischargeDepth := 9) -implicitDefEqProofs only [push_cast, simprocAttr, M14, aw, hy, hf, w1, w1', e1, e2, eA, eB, eM, eN, e3, e4, e5, e6, e7, e8, w2, c1, c2, hs5, hm5, hlo, decide_false, Bool.not_false, Bool.and_true]
    · rw [decide_eq_false c1] at e8
      cases q
      all_goals
        simp (maxDischargeDepth := 9) -implicitDefEqProofs only [push_cast, simprocAttr, M14, aw, hy, hf, w1, w1', e1, e2, eA, eB, eM, eN, e3, e4, e5, e6, e7, e8, w2, c1, hs5, hm5, hlo, decide_false, Bool.not_false, Bool.and_true]
theorem rules_law (js : AHeap) (avs : List AV) (hx : Ext js) (ht : TyA (CP.gl ++ js) [.one (.i .i64), .one (.i .i64), .agg [.i .i64, .i .i64, .i .i64, .i .i64, .i .i64]] avs) : ∃ h' ws, W CP 3 avs (CP.gl ++ js) = some (.bool true, h', ws) := by
  simp only [TyA] at ht
  obtain ⟨a, _, rfl, h2, b, _, rfl, h3, cs, _, rfl, h4, rfl⟩ := ht
  simp only [TyL, Ty] at h2 h3 h4
  obtain ⟨a, rfl, _, _⟩ := h2
  obtain ⟨b, rfl, _, _⟩ := h3
  obtain ⟨_, _, rfl, ⟨x0, rfl, _, _⟩, _, _, rfl, ⟨x1, rfl, _, _⟩, _, _, rfl, ⟨x2, rfl, _, _⟩, _, _, rfl, ⟨x3, rfl, _, _⟩, _, _, rfl, ⟨x4, rfl, _, _⟩, rfl⟩ := h4
  exact W_law (m := M3) (fun _ => rfl) rfl (rules_body _ (good_ext hx) a b x0 x1 x2 x3 x4) fun _ => rules_body _ good_gl a b x0 x1 x2 x3 x4
theorem ages_law (js : AHeap) (avs : List AV) (hx : Ext js) (ht : TyA (CP.gl ++ js) [.agg [.i .i64, .i .i64, .i .i64], .agg [.i .i64, .i .i64, .i .i64], .agg [.i .i64, .i .i64, .i .i64, .i .i64, .i .i64]] avs) : ∃ h' ws, W CP 14 avs (CP.gl ++ js) = some (.bool true, h', ws) := by
  simp only [TyA] at ht
  obtain ⟨cs, _, rfl, h2, ds, _, rfl, h3, es, _, rfl, h4, rfl⟩ := ht
  simp only [TyL, Ty] at h2 h3 h4
  obtain ⟨_, _, rfl, ⟨a0, rfl, _, _⟩, _, _, rfl, ⟨a1, rfl, _, _⟩, _, _, rfl, ⟨a2, rfl, _, _⟩, rfl⟩ := h2
  obtain ⟨_, _, rfl, ⟨b0, rfl, _, _⟩, _, _, rfl, ⟨b1, rfl, _, _⟩, _, _, rfl, ⟨b2, rfl, _, _⟩, rfl⟩ := h3
  obtain ⟨_, _, rfl, ⟨x0, rfl, _, _⟩, _, _, rfl, ⟨x1, rfl, _, _⟩, _, _, rfl, ⟨x2, rfl, _, _⟩, _, _, rfl, ⟨x3, rfl, _, _⟩, _, _, rfl, ⟨x4, rfl, _, _⟩, rfl⟩ := h4
  exact W_law (m := M14) (fun _ => rfl) rfl (ages_body _ (good_ext hx) a0 a1 a2 b0 b1 b2 x0 x1 x2 x3 x4) fun _ => ages_body _ good_gl a0 a1 a2 b0 b1 b2 x0 x1 x2 x3 x4
theorem rules_kinds : aksOf X.P 20 [2, 2, 23] = some [.one (.i .i64), .one (.i .i64), .agg [.i .i64, .i .i64, .i .i64, .i .i64, .i .i64]] := by kernel_rfl
theorem ages_kinds : aksOf X.P 20 [33, 33, 23] = some [.agg [.i .i64, .i .i64, .i .i64], .agg [.i .i64, .i .i64, .i .i64], .agg [.i .i64, .i .i64, .i .i64, .i .i64, .i .i64]] := by kernel_rfl
end Go.Proofs.YtcpiohklljppaaaW.AI.D
