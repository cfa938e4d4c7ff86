import Derived.Test.YthcjmmngenogmaaAIEbigA
namespace Go.Proofs.YthcjmmngenogmaaW.AI.E
open Go Go.Proofs.YthcjmmngenogmaaW.AI
set_option maxRecDepth 100000
set_option linter.unusedSimpArgs false
set_option linter.unusedVariables false
set_option linter.unusedSectionVars false
theorem aN_pos (S : Int) : 0 ≤ aN S := by unfold aN; split <;> omega
/-- A sign and a size that are a number's. -/
theorem sgn_big {s : Bool} {V S : Int} (h0 : 0 ≤ V) (h : sgn s V = S) : (s && decide (V ≠ 0)) = decide (S < 0) ∧ V = aN S := by
  unfold sgn at h
  unfold aN
  cases s with
  | false =>
    simp only [Bool.false_eq_true, if_false] at h
    subst h
    refine ⟨by simp; omega, by split <;> omega⟩
  | true =>
    simp only [if_true] at h
    subst h
    refine ⟨?_, by split <;> omega⟩
    rw [Bool.true_and]
    by_cases c : V = 0
    · simp [c]
    · rw [decide_eq_true c, decide_eq_true (by omega)]
section
variable {h : AHeap} {a b : AV} {LA LB : List Int}
/-- What trim makes of a sign and a row is a number. -/
theorem trim_big {s : Bool} {S : Int} (hg : Good h) (ua : UV h a LA) (hla : LA.length < 1000) (hS : sgn s (val LA) = S) :
    ∃ r js, W CP 94 [.agg [.bool s, a]] h = some (r, h ++ js, []) ∧ BigS S LA.length (h ++ js) r ∧ Good (h ++ js) := by
  obtain ⟨r, js, e, b, hG, _⟩ := trim_c (s := s) hg ua hla
  obtain ⟨e1, e2⟩ := sgn_big (val_bound ua.1).1 hS
  rw [e1, e2] at b
  exact ⟨r, js, e, b, hG⟩
theorem BigS.len {S : Int} {n m : Nat} {H : AHeap} {r : AV} (b : BigS S n H r) (h : n ≤ m) : BigS S m H r := by
  obtain ⟨v, L, e, u, q1, q2, q3⟩ := b
  exact ⟨v, L, e, u, q1, q2, by omega⟩
/-- A number's row is as long as the number asks. -/
theorem BigS.fit {S : Int} {n m : Nat} {H : AHeap} {r : AV} (b : BigS S n H r) (h : aN S < 65536 ^ m) : BigS S m H r := by
  obtain ⟨v, L, e, u, q1, q2, q3⟩ := b
  refine ⟨v, L, e, u, q1, q2, ?_⟩
  rcases Nat.lt_or_ge m L.length with c | c
  · have := val_low u.1 q2 (by rintro rfl; simp at c)
    have h2 := pow_le (show m ≤ L.length - 1 by omega)
    omega
  · exact c
set_option maxHeartbeats 8000000 in
theorem Plus_c {SA SB : Int} {nA nB : Nat} {rA rB : AV} (hg : Good h) (ba : BigS SA nA h rA) (bb : BigS SB nB h rB) (hA : nA < 900) (hB : nB < 900) :
    ∃ r js, W CP 65 [rA, rB] h = some (r, h ++ js, []) ∧ BigS (SA + SB) (max nA nB + 1) (h ++ js) r ∧ Good (h ++ js) ∧ (r.lt h.length = true → js = []) := by
  obtain ⟨a, LA, rfl, ua, vA, cA, lA⟩ := ba
  obtain ⟨b, LB, rfl, ub, vB, cB, lB⟩ := bb
  refine W_any (m := M65) (fun g => UV g a LA ∧ UV g b LB) (BigS (SA + SB) (max nA nB + 1)) (fun _ => rfl) rfl rfl gl_good (fun h0 => ?_) BigR.up BigR.down (fun g hg hi => ?_) hg ⟨ua, ub⟩
  · simp only [AV.lts, AV.lt, Bool.and_eq_true] at h0
    exact ⟨ua.gl h0.1.2.1, ub.gl h0.2.1.2.1⟩
  obtain ⟨ua, ub⟩ := hi
  have na := ua.na
  have ca := ua.cell
  have nb := ub.na
  have cb := ub.cell
  obtain ⟨X, hX⟩ : ∃ X : AHeap, [⟨.tip false, .vals [.bool (decide (SA < 0)), a]⟩, ⟨.tip false, .vals [.bool (decide (SB < 0)), b]⟩, ⟨.tip false, .vals [.bool false, .nils]⟩] = X := ⟨_, rfl⟩
  have hno : X.all notOld = true := by rw [← hX]; rfl
  have hG1 : Good (g ++ X) := good_app hg hno
  have ua1 := ua.app X
  have ub1 := ub.app X
  have b0 : (g ++ X)[g.length]? = some ⟨.tip false, .vals [.bool (decide (SA < 0)), a]⟩ := by rw [← hX]; exact end_get4 _ _ _
  have b1 : (g ++ X)[g.length + 1]? = some ⟨.tip false, .vals [.bool (decide (SB < 0)), b]⟩ := by rw [← hX, List.getElem?_append_right (by omega)]; simp
  have b2 : (g ++ X)[g.length + 2]? = some ⟨.tip false, .vals [.bool false, .nils]⟩ := by rw [← hX, List.getElem?_append_right (by omega)]; simp
  have kX : Keeps g (g ++ X) none := Keeps.app _ _ _ hno
  have eL := Less_c hG1 ua1 ub1 cA cB (by omega) (by omega)
  have vA0 := aN_pos SA
  have vB0 := aN_pos SB
  have setB : ∀ {H : AHeap} {v : AV} {L : List Int} {z : ABlk}, H[g.length + 2]? = some ⟨.tip false, .vals [.bool false, .nils]⟩ → UV H v L → UV (H.set (g.length + 2) z) v L := by
    intro H v L z hz u
    obtain ⟨hD, k | ⟨b', c, st, l, mn, e, r⟩⟩ := u
    · exact ⟨hD, Or.inl k⟩
    · refine ⟨hD, Or.inr ⟨b', c, st, l, mn, ?_, r⟩⟩
      rw [List.getElem?_set_ne (by rintro rfl; rw [hz] at e; cases e)]
      exact e
  have eX : g ++ X = g ++ [⟨.tip false, .vals [.bool (decide (SA < 0)), a]⟩, ⟨.tip false, .vals [.bool (decide (SB < 0)), b]⟩, ⟨.tip false, .vals [.bool false, .nils]⟩] := by rw [hX]
  have l0 := (List.getElem?_eq_some_iff.1 b0).1
  have l1 := (List.getElem?_eq_some_iff.1 b1).1
  have l2 := (List.getElem?_eq_some_iff.1 b2).1
  obtain ⟨Y, hY⟩ : ∃ Y, g ++ X = Y := ⟨_, rfl⟩
  have eY : g ++ [ABlk.new (.vals [.bool (decide (SA < 0)), a]), ABlk.new (.vals [.bool (decide (SB < 0)), b]), ABlk.new (.vals [.bool false, .nils])] = Y := by rw [← hY, eX]
  rw [hY] at hG1 ua1 ub1 b0 b1 b2 kX eL l0 l1 l2
  have sA : SA = sgn (decide (SA < 0)) (val LA) := by rw [vA]; unfold sgn aN; by_cases c : SA < 0 <;> simp [c]
  have sB : SB = sgn (decide (SB < 0)) (val LB) := by rw [vB]; unfold sgn aN; by_cases c : SB < 0 <;> simp [c]
  obtain ⟨pA, hpA⟩ : ∃ p, decide (SA < 0) = p := ⟨_, rfl⟩
  obtain ⟨pB, hpB⟩ : ∃ p, decide (SB < 0) = p := ⟨_, rfl⟩
  rw [hpA] at b0 sA eY ⊢
  rw [hpB] at b1 sB eY ⊢
  clear hpA hpB
  have wA := (val_bound ua1.1).1
  have wB := (val_bound ub1.1).1
  have lo1 : ¬ Y.length ≤ g.length := by omega
  have lo2 : ¬ Y.length ≤ g.length + 1 := by omega
  by_cases hp : pA = pB
  · subst hp
    obtain ⟨w, js1, eP, ⟨L, uL, vL, lL, _⟩, hG2, _⟩ := plus_c hG1 ua1 ub1 (by omega) (by omega)
    have k21 : Keeps Y (Y ++ js1) none := keepsG hG2
    obtain ⟨Z1, hZ1⟩ : ∃ Z1, Y ++ js1 = Z1 := ⟨_, rfl⟩
    rw [hZ1] at eP uL hG2 k21
    obtain ⟨r, js2, eT, ⟨v, M, rfl, uM, vM, cM, lM⟩, hG3⟩ := trim_big (s := pA) (S := SA + SB) hG2 uL (by omega) (by
      rw [sA, sB, vL]; unfold sgn; split <;> omega)
    have k22 : Keeps Z1 (Z1 ++ js2) none := keepsG hG3
    obtain ⟨Z2, hZ2⟩ : ∃ Z2, Z1 ++ js2 = Z2 := ⟨_, rfl⟩
    rw [hZ2] at eT uM hG3 k22
    have f1 := keepsN k22 _ _ (keepsN k21 _ _ b2)
    have f2 : Keeps g (Z2.set (g.length + 2) ⟨.tip false, .vals [.bool (decide (SA + SB < 0)), v]⟩) none := keepsS (keepsT kX (keepsT k21 k22)) (by omega) rfl
    have nw := uL.na
    have cw := uL.cell
    have nv := uM.na
    have cv := uM.cell
    have f3 := (List.getElem?_eq_some_iff.1 f1).1
    have uF := setB (z := ⟨.tip false, .vals [.bool (decide (SA + SB < 0)), v]⟩) f1 uM
    cases pA <;> rcases uL.shape with rfl | ⟨_, _, _, rfl⟩ | ⟨_, _, _, rfl⟩
    all_goals
      simp (maxDischargeDepth := 9) -implicitDefEqProofs only [push_cast, simprocAttr, M65, nadd1, nadd2, nadd3, nadd4, nadd5, nadd6, nadd7, nadd8, nadd9, nadd10, nadd11, nadd12, na, ca, nb, cb, eY, b0, b1, l0, l1, eP, nw, cw, eT, nv, cv, f1, f3, lo1, lo2, decide_false, Bool.not_false, Bool.and_true]
      exact ⟨⟨v, M, rfl, uF, vM, cM, by omega⟩, f2⟩
  · have hne : (pA == pB) = false := by cases pA <;> cases pB <;> first | exact absurd rfl hp | rfl
    have hLB : val LB ≤ val LA → LB.length ≤ LA.length := fun h => by
      rcases Nat.lt_or_ge LA.length LB.length with c | c
      · have := val_long ub1.1 cB ua1.1 c; omega
      · exact c
    have hLA : val LA ≤ val LB → LA.length ≤ LB.length := fun h => by
      rcases Nat.lt_or_ge LB.length LA.length with c | c
      · have := val_long ua1.1 cA ub1.1 c; omega
      · exact c
    by_cases hlt : val LA < val LB
    · rw [decide_eq_true hlt] at eL
      obtain ⟨w, js1, eP, ⟨L, uL, vL, lL⟩, hG2, _⟩ := less_c hG1 ub1 ua1 (by omega) (hLA (by omega)) (by omega)
      have k21 : Keeps Y (Y ++ js1) none := keepsG hG2
      obtain ⟨Z1, hZ1⟩ : ∃ Z1, Y ++ js1 = Z1 := ⟨_, rfl⟩
      rw [hZ1] at eP uL hG2 k21
      obtain ⟨r, js2, eT, ⟨v, M, rfl, uM, vM, cM, lM⟩, hG3⟩ := trim_big (s := pB) (S := SA + SB) hG2 uL (by omega) (by
        rw [sA, sB, vL]; unfold sgn; cases pA <;> cases pB <;> first | exact absurd rfl hp | (simp only [if_true, Bool.false_eq_true, if_false]; omega))
      have k22 : Keeps Z1 (Z1 ++ js2) none := keepsG hG3
      obtain ⟨Z2, hZ2⟩ : ∃ Z2, Z1 ++ js2 = Z2 := ⟨_, rfl⟩
      rw [hZ2] at eT uM hG3 k22
      have f1 := keepsN k22 _ _ (keepsN k21 _ _ b2)
      have f2 : Keeps g (Z2.set (g.length + 2) ⟨.tip false, .vals [.bool (decide (SA + SB < 0)), v]⟩) none := keepsS (keepsT kX (keepsT k21 k22)) (by omega) rfl
      have nw := uL.na
      have cw := uL.cell
      have nv := uM.na
      have cv := uM.cell
      have f3 := (List.getElem?_eq_some_iff.1 f1).1
      have uF := setB (z := ⟨.tip false, .vals [.bool (decide (SA + SB < 0)), v]⟩) f1 uM
      cases pA <;> cases pB
      · exact absurd rfl hp
      rotate_left 2
      · exact absurd rfl hp
      all_goals
        rcases uL.shape with rfl | ⟨_, _, _, rfl⟩ | ⟨_, _, _, rfl⟩
      all_goals
        simp (maxDischargeDepth := 9) -implicitDefEqProofs only [push_cast, simprocAttr, M65, nadd1, nadd2, nadd3, nadd4, nadd5, nadd6, nadd7, nadd8, nadd9, nadd10, nadd11, nadd12, na, ca, nb, cb, eY, b0, b1, l0, l1, eL, eP, nw, cw, eT, nv, cv, f1, f3, lo1, lo2, decide_false, Bool.not_false, Bool.and_true]
        exact ⟨⟨v, M, rfl, uF, vM, cM, by omega⟩, f2⟩
    · rw [decide_eq_false hlt] at eL
      obtain ⟨w, js1, eP, ⟨L, uL, vL, lL⟩, hG2, _⟩ := less_c hG1 ua1 ub1 (by omega) (hLB (by omega)) (by omega)
      have k21 : Keeps Y (Y ++ js1) none := keepsG hG2
      obtain ⟨Z1, hZ1⟩ : ∃ Z1, Y ++ js1 = Z1 := ⟨_, rfl⟩
      rw [hZ1] at eP uL hG2 k21
      obtain ⟨r, js2, eT, ⟨v, M, rfl, uM, vM, cM, lM⟩, hG3⟩ := trim_big (s := pA) (S := SA + SB) hG2 uL (by omega) (by
        rw [sA, sB, vL]; unfold sgn; cases pA <;> cases pB <;> first | exact absurd rfl hp | (simp only [if_true, Bool.false_eq_true, if_false]; omega))
      have k22 : Keeps Z1 (Z1 ++ js2) none := keepsG hG3
      obtain ⟨Z2, hZ2⟩ : ∃ Z2, Z1 ++ js2 = Z2 := ⟨_, rfl⟩
      rw [hZ2] at eT uM hG3 k22
      have f1 := keepsN k22 _ _ (keepsN k21 _ _ b2)
      have f2 : Keeps g (Z2.set (g.length + 2) ⟨.tip false, .vals [.bool (decide (SA + SB < 0)), v]⟩) none := keepsS (keepsT kX (keepsT k21 k22)) (by omega) rfl
      have nw := uL.na
      have cw := uL.cell
      have nv := uM.na
      have cv := uM.cell
      have f3 := (List.getElem?_eq_some_iff.1 f1).1
      have uF := setB (z := ⟨.tip false, .vals [.bool (decide (SA + SB < 0)), v]⟩) f1 uM
      cases pA <;> cases pB
      · exact absurd rfl hp
      rotate_left 2
      · exact absurd rfl hp
      all_goals
        rcases uL.shape with rfl | ⟨_, _, _, rfl⟩ | ⟨_, _, _, rfl⟩
      all_goals
        simp (maxDischargeDepth := 9) -implicitDefEqProofs only [push_cast, simprocAttr, M65, nadd1, nadd2, nadd3, nadd4, nadd5, nadd6, nadd7, nadd8, nadd9, nadd10, nadd11, nadd12, na, ca, nb, cb, eY, b0, b1, l0, l1, eL, eP, nw, cw, eT, nv, cv, f1, f3, lo1, lo2, decide_false, Bool.not_false, Bool.and_true]
        exact ⟨⟨v, M, rfl, uF, vM, cM, by omega⟩, f2⟩
end
end Go.Proofs.YthcjmmngenogmaaW.AI.E
namespace Go.Proofs.YthcjmmngenogmaaW.AI.E
open Go Go.Proofs.YthcjmmngenogmaaW.AI
set_option maxRecDepth 100000
set_option linter.unusedSimpArgs false
set_option linter.unusedVariables false
set_option linter.unusedSectionVars false
theorem UV.setv {H : AHeap} {q : Nat} {A B : List AV} {v : AV} {L : List Int} (hz : H[q]? = some ⟨.tip false, .vals A⟩) (u : UV H v L) : UV (H.set q ⟨.tip false, .vals B⟩) v L := by
  obtain ⟨hD, k | ⟨b', c, st, l, mn, e, r⟩⟩ := u
  · exact ⟨hD, Or.inl k⟩
  · refine ⟨hD, Or.inr ⟨b', c, st, l, mn, ?_, r⟩⟩
    rw [List.getElem?_set_ne (by rintro rfl; rw [hz] at e; cases e)]
    exact e
section
variable {h : AHeap} {a b : AV} {LA LB : List Int}
set_option maxHeartbeats 32000000 in
theorem Times_c {SA SB : Int} {nA nB : Nat} {rA rB : AV} (hg : Good h) (ba : BigS SA nA h rA) (bb : BigS SB nB h rB) (hA : nA < 200) (hB : nB < 200) :
    ∃ r js, W CP 64 [rA, rB] h = some (r, h ++ js, []) ∧ BigS (SA * SB) (nA + nB) (h ++ js) r ∧ Good (h ++ js) ∧ (r.lt h.length = true → js = []) := by
  obtain ⟨a, LA, rfl, ua, vA, cA, lA⟩ := ba
  obtain ⟨b, LB, rfl, ub, vB, cB, lB⟩ := bb
  refine W_any (m := M64) (fun g => UV g a LA ∧ UV g b LB) (BigS (SA * SB) (nA + nB)) (fun _ => rfl) rfl rfl gl_good (fun h0 => ?_) BigR.up BigR.down (fun g hg hi => ?_) hg ⟨ua, ub⟩
  · simp only [AV.lts, AV.lt, Bool.and_eq_true] at h0
    exact ⟨ua.gl h0.1.2.1, ub.gl h0.2.1.2.1⟩
  obtain ⟨ua, ub⟩ := hi
  have na := ua.na
  have ca := ua.cell
  have nb := ub.na
  have cb := ub.cell
  have dA := ua.1
  have dB := ub.1
  have la := ua.len
  have lb := ub.len
  obtain ⟨m, hm⟩ : ∃ m, LA.length = m := ⟨_, rfl⟩
  obtain ⟨n, hn⟩ : ∃ n, LB.length = n := ⟨_, rfl⟩
  rw [hm] at la lA
  rw [hn] at lb lB
  obtain ⟨pA, hpA⟩ : ∃ p, decide (SA < 0) = p := ⟨_, rfl⟩
  obtain ⟨pB, hpB⟩ : ∃ p, decide (SB < 0) = p := ⟨_, rfl⟩
  have sA : SA = sgn pA (val LA) := by rw [vA, ← hpA]; unfold sgn aN; by_cases c : SA < 0 <;> simp [c]
  have sB : SB = sgn pB (val LB) := by rw [vB, ← hpB]; unfold sgn aN; by_cases c : SB < 0 <;> simp [c]
  rw [hpA, hpB]
  clear hpA hpB
  have wA := val_bound dA
  have wB := val_bound dB
  have q10 : ¬ g.length + 1 = g.length := by omega
  have q20 : ¬ g.length + 2 = g.length := by omega
  have q30 : ¬ g.length + 3 = g.length := by omega
  have q31 : ¬ g.length + 3 = g.length + 1 := by omega
  have q32 : ¬ g.length + 3 = g.length + 2 := by omega
  have q23 : ¬ g.length + 2 = g.length + 3 := by omega
  simp (maxDischargeDepth := 9) -implicitDefEqProofs only [push_cast, simprocAttr, M64, nadd1, nadd2, nadd3, nadd4, nadd5, nadd6, nadd7, nadd8, nadd9, nadd10, nadd11, nadd12, na, ca, nb, cb]
  refine wp_kRes (wp_kSeq (wp_kBlock ?_))
  refine wp_loop (fun k x h' ws => ∃ (i : Nat) (o : AV) (O : List Int), k = m - i ∧ i ≤ m ∧ x = [(2, .ptr g.length 0), (3, .ptr (g.length + 1) 0), (4, .ptr (g.length + 2) 0), (5, .ptr (g.length + 3) 0), (6, .int .i64 (i : Int))] ∧
      h'[g.length]? = some ⟨.tip false, .vals [.bool pA, a]⟩ ∧ h'[g.length + 1]? = some ⟨.tip false, .vals [.bool pB, b]⟩ ∧ h'[g.length + 2]? = some ⟨.tip false, .vals [.bool false, .nils]⟩ ∧ h'[g.length + 3]? = some ⟨.tip false, .vals [.bool false, o]⟩ ∧
      UV h' o O ∧ val O = val (LA.take i) * val LB ∧ O.length ≤ n + 2 + 2 * i ∧ Keeps g h' none ∧ ws = []) m ?_ ?_
  · refine ⟨0, .nils, [], by omega, by omega, ?_, end_get4 _ _ _, ?_, ?_, ?_, UV.nil _, by simp [val], by simp, Keeps.app _ _ _ rfl, rfl⟩
    · simp (maxDischargeDepth := 9) -implicitDefEqProofs only [push_cast, simprocAttr]; try rfl
    all_goals
      rw [List.getElem?_append_right (by omega)]; simp
  · rintro k xx h' ws ⟨i, o, O, rfl, hi, rfl, b0, b1, b2, b3, uo, hv, lO, kp, rfl⟩
    have l0 := (List.getElem?_eq_some_iff.1 b0).1
    have l1 := (List.getElem?_eq_some_iff.1 b1).1
    have l2 := (List.getElem?_eq_some_iff.1 b2).1
    have l3 := (List.getElem?_eq_some_iff.1 b3).1
    have hgh := kp.2.2 hg
    have uah := ua.keep (keepsN kp)
    have ubh := ub.keep (keepsN kp)
    have no := uo.na
    have co := uo.cell
    by_cases hlt : i < m
    · have hlt' : (i : Int) < (m : Int) := by omega
      have m1' : 4 * i ≤ 281474976710656 ∧ i < 9223372036854775808 := by omega
      have hlo : ¬ h'.length < g.length := by have := kp.2.1; omega
      have dx := datL_in dA i
      have vTA := val_take LA i
      have hLx := datL_get (show i < LA.length by omega)
      obtain ⟨x, hx1⟩ : ∃ x, datL LA i = x := ⟨_, rfl⟩
      rw [hx1] at dx vTA hLx
      have hin : (0 : Int) ≤ (i : Int) := by omega
      have v1 : IntKind.i64.wrap ((i : Int) + 1) = (i : Int) + 1 := wr_i64 _ (by omega) (by omega)
      have hcast : (((i + 1 : Nat)) : Int) = (i : Int) + 1 := by omega
      have hfl : (List.replicate i [(0 : Int)]).flatten = List.replicate i 0 := by simp
      simp (maxDischargeDepth := 9) -implicitDefEqProofs only [push_cast, simprocAttr, nadd1, nadd2, nadd3, nadd4, nadd5, nadd6, nadd7, nadd8, nadd9, nadd10, nadd11, nadd12, la, na, b0, l0, b1, l1, hlt', m1', hin, hlo, and_self, hfl, Int.toNat_natCast]
      refine wp_kSeq (wp_kBlock (wp_kSeq (wp_kBlock ?_)))
      refine wp_loop (fun e X H ws => ∃ (k : Nat) (w : AV) (c : Int) (R : List Int), e = n + 2 - k ∧ k ≤ n + 1 ∧ X = [(2, .ptr g.length 0), (3, .ptr (g.length + 1) 0), (4, .ptr (g.length + 2) 0), (5, .ptr (g.length + 3) 0), (6, .int .i64 (i : Int)), (7, w), (8, .int .u64 c), (9, .int .i64 (k : Int))] ∧
        T4 H w R h'.length ∧ Dig R ∧ R.length = i + k ∧ val R + c * 65536 ^ (i + k) = 65536 ^ i * (x * val (LB.take k)) ∧ 0 ≤ c ∧ c < 65536 ∧ (k = n + 1 → c = 0) ∧ Keeps h' H none ∧ ws = []) (n + 2) ?_ ?_
      · refine ⟨0, .sl h'.length 0 i i, 0, List.replicate i 0, by omega, by omega, ?_, Or.inr ⟨h'.length, Nat.le_refl _, Or.inl ⟨by simp, by simp [ABlk.new]⟩⟩, fun d hd => by have := List.eq_of_mem_replicate hd; omega, by simp, ?_, by omega, by omega, by omega, Keeps.app _ _ _ rfl, rfl⟩
        · simp (maxDischargeDepth := 9) -implicitDefEqProofs only [push_cast, simprocAttr]; try rfl
        · have : ∀ j : Nat, val (List.replicate j 0) = 0 := fun j => by
            induction j with
            | zero => rfl
            | succ j ih => rw [List.replicate_succ]; simp [val, ih]
          rw [this]; simp [val]
      · rintro e XX H ws ⟨k, w, c, R, rfl, hk, rfl, t, dR, lR, hvR, c0, c1, hend, kH, rfl⟩
        have kgH := keepsT kp kH
        have hHg := kgH.2.2 hg
        have uR := t.uv dR
        have nw := uR.na
        have uaH := ua.keep (keepsN kgH)
        have ubH := ub.keep (keepsN kgH)
        have uoH := uo.keep (keepsN kH)
        have B0 := keepsN kH _ _ b0
        have B1 := keepsN kH _ _ b1
        have B2 := keepsN kH _ _ b2
        have B3 := keepsN kH _ _ b3
        have L0 := (List.getElem?_eq_some_iff.1 B0).1
        have L1 := (List.getElem?_eq_some_iff.1 B1).1
        have L2 := (List.getElem?_eq_some_iff.1 B2).1
        have L3 := (List.getElem?_eq_some_iff.1 B3).1
        by_cases hcont : (k : Int) < (n : Int) ∨ 0 < c
        · have hkn : k ≤ n := by
            rcases hcont with h | h
            · omega
            · by_cases e : k = n + 1
              · have := hend e; omega
              · omega
          obtain ⟨bb, cc, ea1, ea2, hbl, hbs⟩ := uaH.at' hLx
          have e2 := at_c (i := k) hHg ubH (by omega) (by omega)
          have dy := datL_in dB k
          have vTB := val_take LB k
          have hy0 : k = n → datL LB k = 0 := fun e => datL_ge (by omega)
          obtain ⟨y, hy1⟩ : ∃ y, datL LB k = y := ⟨_, rfl⟩
          rw [hy1] at dy vTB e2 hy0
          have hxy0 : 0 ≤ x * y := Int.mul_nonneg dx.1 dy.1
          have hxy1 : x * y ≤ 65535 * y := Int.mul_le_mul_of_nonneg_right (by omega) dy.1
          obtain ⟨xy, hxy⟩ : ∃ z, x * y = z := ⟨_, rfl⟩
          rw [hxy] at hxy0 hxy1
          obtain ⟨z, hz⟩ : ∃ z, xy + c = z := ⟨_, rfl⟩
          obtain ⟨r, hr⟩ : ∃ r, z % 65536 = r := ⟨_, rfl⟩
          obtain ⟨q, hq⟩ : ∃ q, z / 65536 = q := ⟨_, rfl⟩
          have w1 : IntKind.u64.wrap x = x := wr_u64 _ (by omega) (by omega)
          have w2 : IntKind.u64.wrap y = y := wr_u64 _ (by omega) (by omega)
          have w3 : IntKind.u64.wrap xy = xy := wr_u64 _ (by omega) (by omega)
          have w4 : IntKind.u64.wrap z = z := wr_u64 _ (by omega) (by omega)
          have m1 : Int.tmod z 65536 = r := by rw [Int.tmod_eq_emod_of_nonneg (by omega)]; exact hr
          have m2 : Int.tdiv z 65536 = q := by rw [Int.tdiv_eq_ediv_of_nonneg (by omega)]; exact hq
          have w5 : IntKind.u64.wrap r = r := wr_u64 _ (by omega) (by omega)
          have w6 : IntKind.u32.wrap r = r := wr_u32 _ (by omega) (by omega)
          have w7 : IntKind.u64.wrap q = q := wr_u64 _ (by omega) (by omega)
          have v2 : IntKind.i64.wrap ((k : Int) + 1) = (k : Int) + 1 := wr_i64 _ (by omega) (by omega)
          have hcast2 : (((k + 1 : Nat)) : Int) = (k : Int) + 1 := by omega
          have hkb := keepsJ kH [⟨.tip false, .ints .u32 [r]⟩] rfl
          obtain ⟨w', H2, ws2, ea, t2, hw5, k2⟩ := app4 (B := [r]) (m := 1) (t.keep (h' := H ++ [⟨.tip false, .ints .u32 [r]⟩]) (fun q z e => by rw [List.getElem?_append_left (List.getElem?_eq_some_iff.1 e).1]; exact e)) rfl (by omega) hkb.2.1
          have en := new4 (H := H) r
          have d2 : Dig (R ++ [r]) := dR.app (Dig.one (by omega) (by omega))
          have kk : Keeps h' H2 none := keepsO hgh hkb k2 t.blk
          have nw2 := (t2.uv d2).na
          have hwa : wadd g.length [] ws2 = [] := wadd_ge fun q hq => by have := hw5 q hq; omega
          have hloH : ¬ H.length < g.length := by have := kgH.2.1; omega
          have hv2 : val (R ++ [r]) + q * 65536 ^ (i + (k + 1)) = 65536 ^ i * (x * val (LB.take (k + 1))) := by
            rw [val_snoc, lR, vTB, ← Nat.add_assoc, Int.pow_succ, Int.pow_add]
            rw [Int.pow_add] at hvR
            have e : z = 65536 * q + r := by omega
            have e2 : z = x * y + c := by omega
            obtain ⟨P, hP⟩ : ∃ P : Int, 65536 ^ i = P := ⟨_, rfl⟩
            obtain ⟨Q, hQ⟩ : ∃ P : Int, 65536 ^ k = P := ⟨_, rfl⟩
            obtain ⟨T, hT⟩ : ∃ T, val (LB.take k) = T := ⟨_, rfl⟩
            rw [hP, hQ] at hvR ⊢
            rw [hT] at hvR ⊢
            have h1 : r * (P * Q) + q * (P * Q * 65536) = z * (P * Q) := by rw [e]; grind
            have h2 : z * (P * Q) = x * y * (P * Q) + c * (P * Q) := by rw [e2]; grind
            have h3 : P * (x * (T + y * Q)) = P * (x * T) + x * y * (P * Q) := by grind
            omega
          have hend2 : k + 1 = n + 1 → q = 0 := fun e => by
            have hy := hy0 (by omega)
            have : xy = 0 := by rw [← hxy, hy]; simp
            omega
          have hble : ¬ H.length ≤ bb := by omega
          have hble0 : ¬ H.length ≤ g.length := by omega
          rcases hbs with hbs | ⟨oo, hbs⟩ <;> rcases hcont with f1 | f2
          rotate_left 1
          · by_cases f1 : (k : Int) < (n : Int)
            all_goals
              simp (maxDischargeDepth := 9) -implicitDefEqProofs only [push_cast, simprocAttr, nadd1, nadd2, nadd3, nadd4, nadd5, nadd6, nadd7, nadd8, nadd9, nadd10, nadd11, nadd12, na, nb, lb, nw, f1, f2, B0, L0, B1, L1, ↓uia_eq, ea1, ↓uld_eq 35, ea2, e2, hxy, hz, w1, w2, w3, w4, m1, m2, w5, w6, w7, en, ea, hwa, nw2, hloH, v2, hble, hble0, hbs, decide_false, Bool.not_false, Bool.and_true]
              refine loop_next (n + 2 - (k + 1)) (by omega) ⟨k + 1, w', q, R ++ [r], rfl, by omega, ?_, t2, d2, by simp [lR]; omega, hv2, by omega, by omega, hend2, kk, rfl⟩
              rw [hcast2]
              simp (maxDischargeDepth := 9) -implicitDefEqProofs only [push_cast, simprocAttr, nw2]; try simp
          rotate_left 1
          · by_cases f1 : (k : Int) < (n : Int)
            all_goals
              simp (maxDischargeDepth := 9) -implicitDefEqProofs only [push_cast, simprocAttr, nadd1, nadd2, nadd3, nadd4, nadd5, nadd6, nadd7, nadd8, nadd9, nadd10, nadd11, nadd12, na, nb, lb, nw, f1, f2, B0, L0, B1, L1, ↓uia_eq, ea1, ↓uld_eq 35, ea2, e2, hxy, hz, w1, w2, w3, w4, m1, m2, w5, w6, w7, en, ea, hwa, nw2, hloH, v2, hble, hble0, hbs, decide_false, Bool.not_false, Bool.and_true]
              refine loop_next (n + 2 - (k + 1)) (by omega) ⟨k + 1, w', q, R ++ [r], rfl, by omega, ?_, t2, d2, by simp [lR]; omega, hv2, by omega, by omega, hend2, kk, rfl⟩
              rw [hcast2]
              simp (maxDischargeDepth := 9) -implicitDefEqProofs only [push_cast, simprocAttr, nw2]; try simp
          all_goals
            simp (maxDischargeDepth := 9) -implicitDefEqProofs only [push_cast, simprocAttr, nadd1, nadd2, nadd3, nadd4, nadd5, nadd6, nadd7, nadd8, nadd9, nadd10, nadd11, nadd12, na, nb, lb, nw, f1, B0, L0, B1, L1, ↓uia_eq, ea1, ↓uld_eq 35, ea2, e2, hxy, hz, w1, w2, w3, w4, m1, m2, w5, w6, w7, en, ea, hwa, nw2, hloH, v2, hble, hble0, hbs, decide_false, Bool.not_false, Bool.and_true]
            refine loop_next (n + 2 - (k + 1)) (by omega) ⟨k + 1, w', q, R ++ [r], rfl, by omega, ?_, t2, d2, by simp [lR]; omega, hv2, by omega, by omega, hend2, kk, rfl⟩
            rw [hcast2]
            simp (maxDischargeDepth := 9) -implicitDefEqProofs only [push_cast, simprocAttr, nw2]; try simp
        · have f1 : ¬ (k : Int) < (n : Int) := fun h => hcont (Or.inl h)
          have f2 : ¬ 0 < c := fun h => hcont (Or.inr h)
          have hc0 : c = 0 := by omega
          rw [hc0, val_all LB (by omega)] at hvR
          obtain ⟨w2, js, eP, ⟨L, uL, vL, lL, _⟩, hG2, _⟩ := plus_c hHg uoH uR (by omega) (by omega)
          have kJ : Keeps H (H ++ js) none := keepsG hG2
          obtain ⟨Z, hZ⟩ : ∃ Z, H ++ js = Z := ⟨_, rfl⟩
          rw [hZ] at eP uL hG2 kJ
          have C0 := keepsN kJ _ _ B0
          have C1 := keepsN kJ _ _ B1
          have C2 := keepsN kJ _ _ B2
          have C3 := keepsN kJ _ _ B3
          have M3 := (List.getElem?_eq_some_iff.1 C3).1
          have nL := uL.na
          have D0 : ∀ z, (Z.set (g.length + 3) z)[g.length]? = some ⟨.tip false, .vals [.bool pA, a]⟩ := fun z => by rw [List.getElem?_set_ne (by omega)]; exact C0
          have D1 : ∀ z, (Z.set (g.length + 3) z)[g.length + 1]? = some ⟨.tip false, .vals [.bool pB, b]⟩ := fun z => by rw [List.getElem?_set_ne (by omega)]; exact C1
          have D2 : ∀ z, (Z.set (g.length + 3) z)[g.length + 2]? = some ⟨.tip false, .vals [.bool false, .nils]⟩ := fun z => by rw [List.getElem?_set_ne (by omega)]; exact C2
          have D3 : ∀ z, (Z.set (g.length + 3) z)[g.length + 3]? = some z := fun z => List.getElem?_set_self M3
          have kF : Keeps g (Z.set (g.length + 3) ⟨.tip false, .vals [.bool false, w2]⟩) none := keepsS (keepsT kgH kJ) (by omega) rfl
          have uF := UV.setv (B := [.bool false, w2]) C3 uL
          have hvF : val L = val (LA.take (i + 1)) * val LB := by
            rw [vL, hv, vTA]
            have : val R = 65536 ^ i * (x * val LB) := by omega
            rw [this]; grind
          have hlF : L.length ≤ n + 2 + 2 * (i + 1) := by omega
          have hloZ : ¬ g.length + 3 < g.length := by omega
          rcases uL.shape with rfl | ⟨_, _, _, rfl⟩ | ⟨_, _, _, rfl⟩
          all_goals
            simp (maxDischargeDepth := 9) -implicitDefEqProofs only [push_cast, simprocAttr, nadd1, nadd2, nadd3, nadd4, nadd5, nadd6, nadd7, nadd8, nadd9, nadd10, nadd11, nadd12, nb, lb, nw, no, f1, f2, B1, L1, B3, L3, eP, nL, C3, M3, hloZ, v1]
            refine loop_next (m - (i + 1)) (by omega) ⟨i + 1, _, L, rfl, by omega, ?_, D0 _, D1 _, D2 _, D3 _, uF, hvF, by omega, kF, rfl⟩
            rw [hcast]
            simp (maxDischargeDepth := 9) -implicitDefEqProofs only [push_cast, simprocAttr]; try simp
    · have hnl : ¬ (i : Int) < (m : Int) := by omega
      rw [val_all LA (by omega)] at hv
      obtain ⟨s, hs⟩ : ∃ s, (!(pA == pB)) = s := ⟨_, rfl⟩
      have hS : sgn s (val O) = SA * SB := by
        rw [sA, sB, hv, ← hs]
        unfold sgn
        cases pA <;> cases pB <;> simp [Int.neg_mul, Int.mul_neg]
      have B3 : (h'.set (g.length + 3) ⟨.tip false, .vals [.bool s, o]⟩)[g.length + 3]? = some ⟨.tip false, .vals [.bool s, o]⟩ := List.getElem?_set_self l3
      have B2 : (h'.set (g.length + 3) ⟨.tip false, .vals [.bool s, o]⟩)[g.length + 2]? = some ⟨.tip false, .vals [.bool false, .nils]⟩ := by rw [List.getElem?_set_ne (by omega)]; exact b2
      have uo2 := UV.setv (B := [.bool s, o]) b3 uo
      have k2 : Keeps g (h'.set (g.length + 3) ⟨.tip false, .vals [.bool s, o]⟩) none := keepsS kp (by omega) rfl
      obtain ⟨Y, hY⟩ : ∃ Y, h'.set (g.length + 3) ⟨.tip false, .vals [.bool s, o]⟩ = Y := ⟨_, rfl⟩
      rw [hY] at B3 B2 uo2 k2
      have L3 := (List.getElem?_eq_some_iff.1 B3).1
      obtain ⟨r, js, eT, bT, hG2⟩ := trim_big (s := s) (S := SA * SB) (k2.2.2 hg) uo2 (by omega) hS
      have hfit : aN (SA * SB) < 65536 ^ (nA + nB) := by
        have e : aN (SA * SB) = val LA * val LB := by
          have := (sgn_big (s := s) (V := val O) (val_bound uo.1).1 hS).2
          rw [← this, hv]
        rw [e, Int.pow_add]
        have h1 := pow_le (show LA.length ≤ nA by omega)
        have h2 := pow_le (show LB.length ≤ nB by omega)
        have p1 := pow_pos' nA
        have p2 := pow_pos' nB
        calc val LA * val LB ≤ val LA * 65536 ^ nB := Int.mul_le_mul_of_nonneg_left (by omega) (by omega)
          _ < 65536 ^ nA * 65536 ^ nB := Int.mul_lt_mul_of_pos_right (by omega) p2
      obtain ⟨v, M, rfl, uM, vM, cM, lM⟩ := bT.fit hfit
      have kJ : Keeps Y (Y ++ js) none := keepsG hG2
      obtain ⟨Z, hZ⟩ : ∃ Z, Y ++ js = Z := ⟨_, rfl⟩
      rw [hZ] at eT uM hG2 kJ
      have C2 := keepsN kJ _ _ B2
      have M2 := (List.getElem?_eq_some_iff.1 C2).1
      have nv := uM.na
      have cv := uM.cell
      have uF := UV.setv (B := [.bool (decide (SA * SB < 0)), v]) C2 uM
      have kF : Keeps g (Z.set (g.length + 2) ⟨.tip false, .vals [.bool (decide (SA * SB < 0)), v]⟩) none := keepsS (keepsT k2 kJ) (by omega) rfl
      have hxor : (pA != pB) = s := by rw [← hs]; rfl
      simp (maxDischargeDepth := 9) -implicitDefEqProofs only [push_cast, simprocAttr, nadd1, nadd2, nadd3, nadd4, nadd5, nadd6, nadd7, nadd8, nadd9, nadd10, nadd11, nadd12, la, na, no, co, b0, l0, b1, l1, b3, l3, hnl, hs, hxor, hY, B3, L3, eT, nv, cv, C2, M2]
      exact ⟨⟨v, M, rfl, uF, vM, cM, lM⟩, kF⟩
end
end Go.Proofs.YthcjmmngenogmaaW.AI.E
namespace Go.Proofs.YthcjmmngenogmaaW.AI.E
open Go Go.Proofs.YthcjmmngenogmaaW.AI
set_option maxRecDepth 100000
set_option linter.unusedSimpArgs false
set_option linter.unusedVariables false
set_option linter.unusedSectionVars false
/-- One bit more: the rest, the digit. -/
theorem bit_step {X B r d bit Q : Int} (hB : 0 < B) (h0 : 0 ≤ r) (h1 : r < B) (hX : X = (Q + d) * B + r) (b0 : 0 ≤ bit) (b1 : bit ≤ 1) :
    (2 * r + bit < B → 2 * X + bit = (2 * Q + 2 * d) * B + (2 * r + bit)) ∧ (¬ 2 * r + bit < B → 2 * X + bit = (2 * Q + (2 * d + 1)) * B + (2 * r + bit - B) ∧ 2 * r + bit - B < B) := by
  constructor
  · intro h
    rw [hX]; grind
  · intro h
    refine ⟨by rw [hX]; grind, by omega⟩
/-- What a division of rows answers: the quotient, the rest. -/
def OverR (A B : Int) (n m : Nat) (H : AHeap) (r : AV) : Prop := ∃ q Q t T, r = .tup [q, t] ∧ UV H q Q ∧ UV H t T ∧ val Q = A / B ∧ val T = A % B ∧ Can Q ∧ Can T ∧ Q.length ≤ n ∧ T.length ≤ m
theorem OverR.up {A B : Int} {n m : Nat} (h js : AHeap) (r : AV) (b : OverR A B n m h r) : OverR A B n m (h ++ js) r := by
  obtain ⟨q, Q, t, T, e, u1, u2, p⟩ := b; exact ⟨q, Q, t, T, e, u1.app js, u2.app js, p⟩
theorem OverR.down {A B : Int} {n m : Nat} (h js : AHeap) (r : AV) (hv : r.lt h.length = true) (b : OverR A B n m (h ++ js) r) : OverR A B n m h r := by
  obtain ⟨q, Q, t, T, rfl, u1, u2, p⟩ := b
  simp only [AV.lt, AV.lts, Bool.and_eq_true] at hv
  exact ⟨q, Q, t, T, rfl, u1.down hv.1, u2.down hv.2.1, p⟩
theorem can_len {L : List Int} {m : Nat} (d : Dig L) (c : Can L) (h : val L < 65536 ^ m) : L.length ≤ m := by
  rcases Nat.lt_or_ge m L.length with e | e
  · have := val_low d c (by rintro rfl; simp at e)
    have h2 := pow_le (show m ≤ L.length - 1 by omega)
    omega
  · exact e
section
variable {h : AHeap} {a b : AV} {LA LB : List Int}
set_option maxHeartbeats 64000000 in
theorem Over_c (hg : Good h) (ua : UV h a LA) (ub : UV h b LB) (cB : Can LB) (hB : 0 < val LB) (hla : LA.length < 200) (hlb : LB.length < 200) :
    ∃ r js, W CP 66 [a, b] h = some (r, h ++ js, []) ∧ OverR (val LA) (val LB) LA.length LB.length (h ++ js) r ∧ Good (h ++ js) ∧ (r.lt h.length = true → js = []) := by
  refine W_any (m := M66) (fun g => UV g a LA ∧ UV g b LB) (OverR (val LA) (val LB) LA.length LB.length) (fun _ => rfl) rfl rfl gl_good (fun h0 => ?_) OverR.up OverR.down (fun g hg hi => ?_) hg ⟨ua, ub⟩
  · simp only [AV.lts, Bool.and_eq_true] at h0
    exact ⟨ua.gl h0.1, ub.gl h0.2.1⟩
  obtain ⟨ua, ub⟩ := hi
  have na := ua.na
  have nb := ub.na
  have la := ua.len
  have dA := ua.1
  have dB := ub.1
  obtain ⟨m, hm⟩ : ∃ m, LA.length = m := ⟨_, rfl⟩
  rw [hm] at la hla ⊢
  obtain ⟨B, hBB⟩ : ∃ B, val LB = B := ⟨_, rfl⟩
  rw [hBB] at hB ⊢
  have bB := val_bound dB
  rw [hBB] at bB
  have w0 : IntKind.i64.wrap ((m : Int) - 1) = (m : Int) - 1 := wr_i64 _ (by omega) (by omega)
  simp (maxDischargeDepth := 9) -implicitDefEqProofs only [push_cast, simprocAttr, M66, na, nb, la, w0]
  refine wp_kRes (wp_kSeq (wp_kBlock ?_))
  refine wp_loop (fun k X h' ws => ∃ (j : Nat) (q t : AV) (Q T : List Int), k = j + 1 ∧ j ≤ m ∧ X = [(0, a), (1, b), (6, q), (7, t), (8, .int .i64 ((j : Int) - 1))] ∧
      UV h' q Q ∧ UV h' t T ∧ val Q = val (LA.drop j) / B ∧ val T = val (LA.drop j) % B ∧ Can T ∧ Q.length = m - j ∧ Keeps g h' none ∧ ws = []) (m + 1) ?_ ?_
  · refine ⟨m, .nils, .nils, [], [], rfl, by omega, ?_, UV.nil _, UV.nil _, ?_, ?_, can_nil, by simp, Keeps.refl _ _, rfl⟩
    · simp (maxDischargeDepth := 9) -implicitDefEqProofs only [push_cast, simprocAttr, na, nb]; try rfl
    · rw [List.drop_of_length_le (by omega)]; simp [val]
    · rw [List.drop_of_length_le (by omega)]; simp [val]
  · rintro k XX h' ws ⟨j, q, t, Q, T, rfl, hj, rfl, uq, ut, hQ, hT, cT, lQ, kp, rfl⟩
    have nq := uq.na
    have nt := ut.na
    by_cases h0 : 0 < j
    · obtain ⟨i, rfl⟩ : ∃ i, j = i + 1 := ⟨j - 1, by omega⟩
      have hji : ((i + 1 : Nat) : Int) - 1 = (i : Int) := by omega
      have hge : (0 : Int) ≤ (i : Int) := by omega
      have w2 : IntKind.i64.wrap ((i : Int) - 1) = (i : Int) - 1 := wr_i64 _ (by omega) (by omega)
      have dx := datL_in dA i
      have hLx := datL_get (show i < LA.length by omega)
      have hcd := val_cons_drop (show i < LA.length by omega)
      obtain ⟨x, hx1⟩ : ∃ x, datL LA i = x := ⟨_, rfl⟩
      rw [hx1] at dx hLx hcd
      obtain ⟨U, hU⟩ : ∃ U, val (LA.drop (i + 1)) = U := ⟨_, rfl⟩
      rw [hU] at hQ hT hcd
      have hU0 : 0 ≤ U := by rw [← hU]; exact (val_bound (dA.drop _)).1
      obtain ⟨xn, hxn⟩ : ∃ n : Nat, x = (n : Int) := ⟨x.toNat, by omega⟩
      rw [hji]
      simp (maxDischargeDepth := 9) -implicitDefEqProofs only [push_cast, simprocAttr, nadd1, nadd2, nadd3, nadd4, nadd5, nadd6, nadd7, nadd8, nadd9, nadd10, nadd11, nadd12, hge, nq, nt]
      refine wp_kSeq (wp_kBlock (wp_kSeq (wp_kBlock ?_)))
      refine wp_loop (fun e X H ws => ∃ (p : Nat) (d : Int) (t' : AV) (T' : List Int), e = p + 1 ∧ p ≤ 16 ∧ X = [(0, a), (1, b), (6, q), (7, t'), (8, .int .i64 (i : Int)), (9, .int .u32 d), (10, .int .i64 ((p : Int) - 1))] ∧
        UV H t' T' ∧ Can T' ∧ 0 ≤ val T' ∧ val T' < B ∧ 0 ≤ d ∧ d < 2 ^ (16 - p) ∧ U * 2 ^ (16 - p) + x / 2 ^ p = (U / B * 2 ^ (16 - p) + d) * B + val T' ∧ Keeps h' H none ∧ ws = []) 17 ?_ ?_
      · refine ⟨16, 0, t, T, rfl, by omega, ?_, ut, cT, by rw [hT]; exact Int.emod_nonneg _ (by omega), by rw [hT]; exact Int.emod_lt_of_pos _ hB, by omega, by decide, ?_, Keeps.refl _ _, rfl⟩
        · simp (maxDischargeDepth := 9) -implicitDefEqProofs only [push_cast, simprocAttr, na, nb, nq, nt]; try rfl
        · have e : x / 2 ^ 16 = 0 := by omega
          have := Int.mul_ediv_add_emod U B
          rw [e, hT, Nat.sub_self]
          have e2 : U / B * B = B * (U / B) := Int.mul_comm _ _
          simp only [Int.pow_zero, Int.mul_one, Int.add_zero]
          omega
      · rintro e XX H ws ⟨p, d, t', T', rfl, hp, rfl, ut', cT', t0, t1, d0, d1, hinv, kH, rfl⟩
        have kgH := keepsT kp kH
        have hHg := kgH.2.2 hg
        have uaH := ua.keep (keepsN kgH)
        have ubH := ub.keep (keepsN kgH)
        have uqH := uq.keep (keepsN kH)
        have nt' := ut'.na
        by_cases hp0 : 0 < p
        · obtain ⟨s, rfl⟩ : ∃ s, p = s + 1 := ⟨p - 1, by omega⟩
          have hps : ((s + 1 : Nat) : Int) - 1 = (s : Int) := by omega
          have hges : (0 : Int) ≤ (s : Int) := by omega
          have w3 : IntKind.i64.wrap ((s : Int) - 1) = (s : Int) - 1 := wr_i64 _ (by omega) (by omega)
          have tl := can_len ut'.1 cT' (show val T' < 65536 ^ LB.length by omega)
          obtain ⟨v1, js1, e1, ⟨L1, u1, vL1, lL1, cL1⟩, hG1, _⟩ := plus_c hHg ut' ut' (by omega) (by omega)
          have k1 : Keeps H (H ++ js1) none := keepsG hG1
          obtain ⟨Z1, hZ1⟩ : ∃ Z1, H ++ js1 = Z1 := ⟨_, rfl⟩
          rw [hZ1] at e1 u1 hG1 k1
          have n1 := u1.na
          have ua1 := uaH.keep (keepsN k1)
          obtain ⟨bb, ea1, ea2, _⟩ := ua1.at hLx
          obtain ⟨bit, hbit⟩ : ∃ bit, x / 2 ^ s % 2 = bit := ⟨_, rfl⟩
          have hbb : 0 ≤ bit ∧ bit ≤ 1 := by omega
          have hx2 : x / 2 ^ s = 2 * (x / 2 ^ (s + 1)) + bit := by
            rw [Int.pow_succ, ← Int.ediv_ediv_of_nonneg (by have : (0 : Int) < 2 ^ s := Int.pow_pos (by decide); omega)]
            omega
          have hsh : x.fdiv (2 ^ s) = x / 2 ^ s := Int.fdiv_eq_ediv_of_nonneg _ (by have : (0 : Int) < 2 ^ s := Int.pow_pos (by decide); omega)
          have hq0 : 0 ≤ x / 2 ^ s := Int.ediv_nonneg dx.1 (by have : (0 : Int) < 2 ^ s := Int.pow_pos (by decide); omega)
          have hq1 : x / 2 ^ s ≤ x := Int.ediv_le_self _ dx.1
          obtain ⟨xs, hxs⟩ : ∃ xs, x / 2 ^ s = xs := ⟨_, rfl⟩
          rw [hxs] at hbit hx2 hsh hq0 hq1
          have ws1 : IntKind.u32.wrap xs = xs := wr_u32 _ (by omega) (by omega)
          have ms1 : Int.tmod xs 2 = bit := by rw [Int.tmod_eq_emod_of_nonneg (by omega)]; exact hbit
          have ws2 : IntKind.u32.wrap bit = bit := wr_u32 _ (by omega) (by omega)
          have hmin : min s 32 = s := by omega
          have hnn : ¬ (s : Int) < 0 := by omega
          -- the rest, with the bit
          obtain ⟨Z2, v2, L2, u2, vL2, cL2, lL2, hG2, k2, kind⟩ : ∃ (Z2 : AHeap) (v2 : AV) (L2 : List Int), UV Z2 v2 L2 ∧ val L2 = 2 * val T' + bit ∧ Can L2 ∧ L2.length ≤ LB.length + 2 ∧ Good Z2 ∧ Keeps Z1 Z2 none ∧
              ((bit = 1 ∧ W CP 93 [v1, .sl Z1.length 0 1 1] (Z1 ++ [⟨.tip false, .ints .u32 [1]⟩]) = some (v2, Z2, [])) ∨ (¬ bit = 1 ∧ True ∧ v2 = v1 ∧ Z2 = Z1)) := by
            by_cases hb1 : bit = 1
            · have hG1' : Good (Z1 ++ [⟨.tip false, .ints .u32 [1]⟩]) := good_app hG1 rfl
              have uone : UV (Z1 ++ [⟨.tip false, .ints .u32 [1]⟩]) (.sl Z1.length 0 1 1) [1] := ⟨Dig.one (by decide) (by decide), Or.inr ⟨Z1.length, 1, .tip false, [1], false, end_get4 _ _ _, Or.inr ⟨_, rfl⟩, Nat.le_refl _, rfl, Or.inl ⟨rfl, Nat.le_refl _⟩⟩⟩
              obtain ⟨v2, js2, e2, ⟨L2, u2, vL2, lL2, cL2⟩, hG2, _⟩ := plus_c hG1' (u1.app _) uone (by omega) (by simp)
              refine ⟨_, v2, L2, u2, ?_, cL2 (cL1 cT' cT') (by intro z hz; simp at hz; omega), ?_, hG2, keepsT (Keeps.app _ _ _ rfl) (keepsG hG2), Or.inl ⟨hb1, e2⟩⟩
              · rw [vL2, vL1, hb1]; simp [val]; omega
              · simp at lL2; omega
            · refine ⟨Z1, v1, L1, u1, ?_, cL1 cT' cT', by omega, hG1, Keeps.refl _ _, Or.inr ⟨hb1, trivial, rfl, rfl⟩⟩
              rw [vL1]; omega
          have n2 := u2.na
          have c2 := u2.cell
          obtain ⟨r3, js3, e3, ⟨v3, L3, rfl, u3, vL3, cL3, _⟩, hG3, _⟩ := trim_c (s := false) hG2 u2 (by omega)
          rw [Bool.false_and] at e3
          have k3 : Keeps Z2 (Z2 ++ js3) none := keepsG hG3
          obtain ⟨Z3, hZ3⟩ : ∃ Z3, Z2 ++ js3 = Z3 := ⟨_, rfl⟩
          rw [hZ3] at e3 u3 hG3 k3
          have n3 := u3.na
          have k03 := keepsT k1 (keepsT k2 k3)
          have ub3 := ubH.keep (keepsN k03)
          rw [vL2] at vL3
          have l3 := can_len u3.1 cL3 (show val L3 < 65536 ^ (LB.length + 1) by
            rw [vL3, Int.pow_succ]
            have hp := pow_pos' LB.length
            omega)
          have eL := Less_c hG3 u3 ub3 cL3 cB (by omega) (by omega)
          rw [vL3, hBB] at eL
          have hs16 : 16 - s = (16 - (s + 1)) + 1 := by omega
          have hbs := bit_step (X := U * 2 ^ (16 - (s + 1)) + x / 2 ^ (s + 1)) (B := B) (r := val T') (d := d) (bit := bit) (Q := U / B * 2 ^ (16 - (s + 1))) hB t0 t1 hinv hbb.1 hbb.2
          have hXX : U * 2 ^ (16 - s) + xs = 2 * (U * 2 ^ (16 - (s + 1)) + x / 2 ^ (s + 1)) + bit := by rw [hs16, Int.pow_succ, hx2]; grind
          have hPP : (2 : Int) ^ (16 - (s + 1)) ≤ 32768 := by
            have := Nat.pow_le_pow_right (show 0 < 2 by decide) (show 16 - (s + 1) ≤ 15 by omega)
            have e15 : (2 : Nat) ^ 15 = 32768 := by decide
            rw [show ((2 : Int) ^ (16 - (s + 1))) = ((2 ^ (16 - (s + 1)) : Nat) : Int) by push_cast; try rfl]
            omega
          have wd1 : IntKind.u32.wrap (d * 2) = d * 2 := wr_u32 _ (by omega) (by omega)
          have wd2 : IntKind.u32.wrap (d * 2 + 1) = d * 2 + 1 := wr_u32 _ (by omega) (by omega)
          have hd2 : (2 : Int) ^ (16 - s) = 2 * 2 ^ (16 - (s + 1)) := by rw [hs16, Int.pow_succ]; omega
          rw [hps]
          by_cases hlt : 2 * val T' + bit < B
          · rw [decide_eq_true hlt] at eL
            have hfin : U * 2 ^ (16 - s) + x / 2 ^ s = (U / B * 2 ^ (16 - s) + d * 2) * B + val L3 := by
              rw [hxs, hXX, hbs.1 hlt, vL3, hd2]; grind
            rcases kind with ⟨hb1, e2⟩ | ⟨hb1, e2, rfl, rfl⟩ <;> rcases u2.shape with rfl | ⟨_, _, _, rfl⟩ | ⟨_, _, _, rfl⟩
            all_goals
              simp (maxDischargeDepth := 9) -implicitDefEqProofs only [push_cast, simprocAttr, nadd1, nadd2, nadd3, nadd4, nadd5, nadd6, nadd7, nadd8, nadd9, nadd10, nadd11, nadd12, na, nb, nt', hges, e1, n1, ↓uia_eq, ea1, ↓uld_eq 27, ea2, hnn, hmin, Int.toNat_natCast, hsh, ws1, ms1, ws2, hb1, e2, n2, c2, e3, n3, eL, wd1, w3]
              refine loop_next (s + 1) (by omega) ⟨s, d * 2, v3, L3, rfl, by omega, ?_, u3, cL3, by omega, by omega, by omega, by omega, hfin, keepsT kH k03, rfl⟩
              simp (maxDischargeDepth := 9) -implicitDefEqProofs only [push_cast, simprocAttr, na, nb, nq]; try simp
          · rw [decide_eq_false hlt] at eL
            obtain ⟨hb2, hb3⟩ := hbs.2 hlt
            have hlen : LB.length ≤ L3.length := by
              rcases Nat.lt_or_ge L3.length LB.length with c | c
              · have := val_long dB cB u3.1 c; omega
              · exact c
            obtain ⟨v4, js4, e4, ⟨L4, u4, vL4, lL4⟩, hG4, _⟩ := less_c hG3 u3 ub3 (by omega) hlen (by omega)
            have k4 : Keeps Z3 (Z3 ++ js4) none := keepsG hG4
            obtain ⟨Z4, hZ4⟩ : ∃ Z4, Z3 ++ js4 = Z4 := ⟨_, rfl⟩
            rw [hZ4] at e4 u4 hG4 k4
            have n4 := u4.na
            have c4 := u4.cell
            obtain ⟨r5, js5, e5, ⟨v5, L5, rfl, u5, vL5, cL5, _⟩, hG5, _⟩ := trim_c (s := false) hG4 u4 (by omega)
            rw [Bool.false_and] at e5
            have k5 : Keeps Z4 (Z4 ++ js5) none := keepsG hG5
            obtain ⟨Z5, hZ5⟩ : ∃ Z5, Z4 ++ js5 = Z5 := ⟨_, rfl⟩
            rw [hZ5] at e5 u5 hG5 k5
            have n5 := u5.na
            have c3 := u3.cell
            rw [vL4, vL3, hBB] at vL5
            have hfin : U * 2 ^ (16 - s) + x / 2 ^ s = (U / B * 2 ^ (16 - s) + (d * 2 + 1)) * B + val L5 := by
              rw [hxs, hXX, hb2, vL5, hd2]; grind
            rcases kind with ⟨hb1, e2⟩ | ⟨hb1, e2, rfl, rfl⟩ <;> rcases u2.shape with rfl | ⟨_, _, _, rfl⟩ | ⟨_, _, _, rfl⟩ <;> rcases u4.shape with rfl | ⟨_, _, _, rfl⟩ | ⟨_, _, _, rfl⟩
            all_goals
              simp (maxDischargeDepth := 9) -implicitDefEqProofs only [push_cast, simprocAttr, nadd1, nadd2, nadd3, nadd4, nadd5, nadd6, nadd7, nadd8, nadd9, nadd10, nadd11, nadd12, na, nb, nt', hges, e1, n1, ↓uia_eq, ea1, ↓uld_eq 27, ea2, hnn, hmin, Int.toNat_natCast, hsh, ws1, ms1, ws2, hb1, e2, n2, c2, e3, n3, eL, wd1, wd2, e4, n4, c4, e5, n5, w3]
              refine loop_next (s + 1) (by omega) ⟨s, d * 2 + 1, v5, L5, rfl, by omega, ?_, u5, cL5, by omega, by omega, by omega, by omega, hfin, keepsT kH (keepsT k03 (keepsT k4 k5)), rfl⟩
              simp (maxDischargeDepth := 9) -implicitDefEqProofs only [push_cast, simprocAttr, na, nb, nq]; try simp
        · obtain rfl : p = 0 := by omega
          have hnl : ¬ (0 : Int) ≤ ((0 : Nat) : Int) - 1 := by decide
          rw [Nat.sub_zero, Int.pow_zero, Int.ediv_one] at hinv
          rw [Nat.sub_zero] at d1
          have e16 : (2 : Int) ^ 16 = 65536 := by decide
          rw [e16] at hinv d1
          have hdv : val (LA.drop i) / B = U / B * 65536 + d := by
            rw [hcd, show x + 65536 * U = (U / B * 65536 + d) * B + val T' by omega]
            rw [Int.add_comm, Int.add_mul_ediv_right _ _ (by omega), Int.ediv_eq_zero_of_lt t0 t1, Int.zero_add]
          have hmd : val (LA.drop i) % B = val T' := by
            rw [hcd, show x + 65536 * U = (U / B * 65536 + d) * B + val T' by omega]
            rw [Int.add_comm, Int.add_mul_emod_self_right, Int.emod_eq_of_lt t0 t1]
          have lq := uqH.len
          have nqH := uqH.na
          have hkb := keepsJ kgH [⟨.tip false, .ints .u32 [d]⟩] rfl
          have hnew := (uqH.app [⟨.tip false, .ints .u32 [d]⟩]).new
          have t0' : T4 (H ++ [⟨.tip false, .ints .u32 [d]⟩]) (.sl H.length 0 1 1) [d] g.length := Or.inr ⟨H.length, kgH.2.1, Or.inl ⟨rfl, end_get4 _ _ _⟩⟩
          obtain ⟨n, hn⟩ : ∃ n, Q.length = n := ⟨_, rfl⟩
          rw [hn] at lq
          obtain ⟨q2, H2, ws2, ea, t2, hw5, k2⟩ := app4 t0' hn (by simp; omega) hkb.2.1
          have kk : Keeps g H2 none := keepsO hg hkb k2 t0'.blk
          have u2 := t2.uv ((Dig.one d0 d1).app uq.1)
          have nq2 := u2.na
          have hwa : wadd g.length [] ws2 = [] := wadd_ge hw5
          have hloH : ¬ H.length < g.length := by have := kgH.2.1; omega
          have kH2 : Keeps H H2 none := keepsO hHg (Keeps.app H [⟨.tip false, .ints .u32 [d]⟩] none rfl) k2 (fun z e => by cases e; exact Nat.le_refl _)
          have ut2 := ut'.keep (keepsN kH2)
          have hvq : val ([d] ++ Q) = val (LA.drop i) / B := by
            rw [hdv, List.singleton_append]
            simp only [val]
            rw [hQ]; omega
          simp (maxDischargeDepth := 9) -implicitDefEqProofs only [push_cast, simprocAttr, nadd1, nadd2, nadd3, nadd4, nadd5, nadd6, nadd7, nadd8, nadd9, nadd10, nadd11, nadd12, hnl, nb, na, nqH, nt', lq, hnew, ea, hwa, nq2, hloH, w2]
          refine loop_next (i + 1) (by omega) ⟨i, q2, t', [d] ++ Q, T', rfl, by omega, ?_, u2, ut2, hvq, hmd.symm, cT', by simp; omega, kk, rfl⟩
          simp (maxDischargeDepth := 9) -implicitDefEqProofs only [push_cast, simprocAttr, na, nb, nt', nq2]; try simp
    · obtain rfl : j = 0 := by omega
      have hnl : ¬ (0 : Int) ≤ ((0 : Nat) : Int) - 1 := by decide
      rw [List.drop_zero] at hQ hT
      have hgh := kp.2.2 hg
      obtain ⟨r5, js5, e5, ⟨v5, L5, rfl, u5, vL5, cL5, lL5⟩, hG5, _⟩ := trim_c (s := false) hgh uq (by omega)
      rw [Bool.false_and] at e5
      have k5 : Keeps h' (h' ++ js5) none := keepsG hG5
      have ut5 := ut.app js5
      have n5 := u5.na
      have hres : OverR (val LA) B m LB.length (h' ++ js5) (.tup [v5, t]) := ⟨v5, L5, t, T, rfl, u5, ut5, by rw [vL5, hQ], hT, cL5, cT, by omega, can_len ut.1 cT (by
        have := Int.emod_lt_of_pos (val LA) hB
        omega)⟩
      have kF := keepsT kp k5
      rcases uq.shape with rfl | ⟨_, _, _, rfl⟩ | ⟨_, _, _, rfl⟩
      all_goals
        simp (maxDischargeDepth := 9) -implicitDefEqProofs only [push_cast, simprocAttr, nadd1, nadd2, nadd3, nadd4, nadd5, nadd6, nadd7, nadd8, nadd9, nadd10, nadd11, nadd12, hnl, nt, e5, n5]
        exact ⟨hres, kF⟩
end
end Go.Proofs.YthcjmmngenogmaaW.AI.E
namespace Go.Proofs.YthcjmmngenogmaaW.AI.E
open Go Go.Proofs.YthcjmmngenogmaaW.AI
set_option maxRecDepth 100000
set_option linter.unusedSimpArgs false
set_option linter.unusedVariables false
set_option linter.unusedSectionVars false
/-- What ref01.MulDiv answers. -/
def mdV (a b c : Int) (up : Bool) : AV := if c ≤ 0 then .tup [.int .i64 0, .int .i64 1] else toldV (decide (a * b < 0)) (aN (a * b) / c + if aN (a * b) % c = 0 ∨ decide (a * b < 0) = up then 0 else 1)
theorem toldV_lt (s : Bool) (V : Int) : AV.lt 0 (toldV s V) = true := by unfold toldV; split <;> rfl
theorem told_out (s : Bool) (V : Int) : ∃ z e : Int, toldV s V = .tup [.int .i64 z, .int .i64 e] := by unfold toldV; split <;> exact ⟨_, _, rfl⟩
theorem mdV_lt (a b c : Int) (up : Bool) : AV.lt 0 (mdV a b c up) = true := by
  unfold mdV; split
  · rfl
  · exact toldV_lt _ _
section
variable {h : AHeap}
set_option maxHeartbeats 16000000 in
theorem MulDiv_c {a b c : Int} {up : Bool} (hg : Good h) (a0 : -9223372036854775808 ≤ a) (a1 : a ≤ 9223372036854775807) (b0 : -9223372036854775808 ≤ b) (b1 : b ≤ 9223372036854775807) (c0 : -9223372036854775808 ≤ c) (c1 : c ≤ 9223372036854775807) :
    W CP 68 [.int .i64 a, .int .i64 b, .int .i64 c, .bool up] h = some (mdV a b c up, h, []) := by
  refine W_bothB (m := M68) (fun _ => True) (fun _ => rfl) rfl rfl (mdV_lt _ _ _ _) gl_good (fun _ => trivial) (fun g hg _ => ?_) hg trivial
  unfold mdV
  by_cases hc : c ≤ 0
  · rw [if_pos hc]
    simp (maxDischargeDepth := 9) -implicitDefEqProofs only [push_cast, simprocAttr, M68, hc]
    exact quietB
  rw [if_neg hc]
  obtain ⟨_, j1, e1, ⟨v1, L1, rfl, u1, w1, C1, l1⟩, hG1, _⟩ := Of_c a0 a1 hg
  have k1 : Keeps g (g ++ j1) none := keepsG hG1
  obtain ⟨H1, hH1⟩ : ∃ H, g ++ j1 = H := ⟨_, rfl⟩
  rw [hH1] at e1 u1 hG1 k1
  obtain ⟨_, j2, e2, ⟨v2, L2, rfl, u2, w2, C2, l2⟩, hG2, _⟩ := Of_c b0 b1 hG1
  have k2 : Keeps H1 (H1 ++ j2) none := keepsG hG2
  have u1' := u1.app j2
  obtain ⟨H2, hH2⟩ : ∃ H, H1 ++ j2 = H := ⟨_, rfl⟩
  rw [hH2] at e2 u2 hG2 k2 u1'
  obtain ⟨_, j3, e3, ⟨x, X, rfl, ux, wX, CX, lX⟩, hG3, _⟩ := Times_c hG2 (⟨v1, L1, rfl, u1', w1, C1, l1⟩ : BigS a 4 H2 _) (⟨v2, L2, rfl, u2, w2, C2, l2⟩ : BigS b 4 H2 _) (by decide) (by decide)
  have k3 : Keeps H2 (H2 ++ j3) none := keepsG hG3
  obtain ⟨H3, hH3⟩ : ∃ H, H2 ++ j3 = H := ⟨_, rfl⟩
  rw [hH3] at e3 ux hG3 k3
  obtain ⟨pa, hpa⟩ : ∃ p, decide (a < 0) = p := ⟨_, rfl⟩
  obtain ⟨pb, hpb⟩ : ∃ p, decide (b < 0) = p := ⟨_, rfl⟩
  rw [hpa] at e1 e3
  rw [hpb] at e2 e3
  obtain ⟨S, hS⟩ : ∃ S, a * b = S := ⟨_, rfl⟩
  rw [hS] at e3 wX ⊢
  obtain ⟨p, hp⟩ : ∃ p, decide (S < 0) = p := ⟨_, rfl⟩
  rw [hp] at e3 ⊢
  clear hpa hpb hp hS
  have S0 := aN_pos S
  obtain ⟨A, hA⟩ : ∃ A, aN S = A := ⟨_, rfl⟩
  rw [hA] at wX S0 ⊢
  -- the product's block
  obtain ⟨Y, hY⟩ : ∃ Y, H3 ++ [ABlk.new (.vals [.bool false, .nils])] = Y := ⟨_, rfl⟩
  have kY : Keeps H3 Y none := by rw [← hY]; exact Keeps.app H3 [⟨.tip false, .vals [.bool false, .nils]⟩] none rfl
  have bY : Y[H3.length]? = some ⟨.tip false, .vals [.bool false, .nils]⟩ := by rw [← hY]; exact end_get4 _ _ _
  have uY := ux.keep (keepsN kY)
  have lY := (List.getElem?_eq_some_iff.1 bY).1
  obtain ⟨H4, hH4⟩ : ∃ H, Y.set H3.length ⟨.tip false, .vals [.bool p, x]⟩ = H := ⟨_, rfl⟩
  have k4 : Keeps H3 H4 none := by rw [← hH4]; exact keepsS kY (Nat.le_refl _) rfl
  have b4 : H4[H3.length]? = some ⟨.tip false, .vals [.bool p, x]⟩ := by rw [← hH4]; exact List.getElem?_set_self lY
  have u4 : UV H4 x X := by rw [← hH4]; exact UV.setv bY uY
  have l4 := (List.getElem?_eq_some_iff.1 b4).1
  have lo4 : ¬ H4.length ≤ H3.length := by omega
  have hG4 := k4.2.2 hG3
  -- the divisor
  obtain ⟨_, j5, e5, ⟨y, LY, rfl, uy, wy, CY, ly⟩, hG5, _⟩ := Of_c (z := c) c0 c1 hG4
  have hcn : ¬ c < 0 := by omega
  rw [if_neg hcn] at wy
  rw [decide_eq_false hcn] at e5
  have k5 : Keeps H4 (H4 ++ j5) none := keepsG hG5
  obtain ⟨H5, hH5⟩ : ∃ H, H4 ++ j5 = H := ⟨_, rfl⟩
  rw [hH5] at e5 uy hG5 k5
  have u5 := u4.keep (keepsN k5)
  have b5 := keepsN k5 _ _ b4
  have l5 := (List.getElem?_eq_some_iff.1 b5).1
  obtain ⟨_, j6, e6, ⟨q, Q, t, T, rfl, uq, ut, wq, wt, CQ, CT, lQ, lT⟩, hG6, _⟩ := Over_c hG5 u5 uy CY (by omega) (by omega) (by omega)
  rw [wX, wy] at wq wt
  have k6 : Keeps H5 (H5 ++ j6) none := keepsG hG6
  obtain ⟨H6, hH6⟩ : ∃ H, H5 ++ j6 = H := ⟨_, rfl⟩
  rw [hH6] at e6 uq ut hG6 k6
  have b6 := keepsN k6 _ _ b5
  have l6 := (List.getElem?_eq_some_iff.1 b6).1
  have kk : Keeps g H6 none := keepsT k1 (keepsT k2 (keepsT k3 (keepsT k4 (keepsT k5 k6))))
  have n1 := u1.na
  have i1 := u1.cell
  have n2 := u2.na
  have i2 := u2.cell
  have nx := ux.na
  have ix := ux.cell
  have ny := uy.na
  have iy := uy.cell
  have nq := uq.na
  have iq := uq.cell
  have nt := ut.na
  have it := ut.cell
  have lt := ut.len
  obtain ⟨m, hm⟩ : ∃ m, T.length = m := ⟨_, rfl⟩
  have lo3 : ¬ H3.length < g.length := by have := (keepsT k1 (keepsT k2 k3)).2.1; omega
  rw [hm] at lt
  by_cases hT : 0 < m
  · have hT' : (0 : Int) < (m : Int) := by omega
    have hlow := val_low ut.1 CT (by rintro rfl; simp at hm; omega)
    have hpp := pow_pos' (T.length - 1)
    have hnz : ¬ A % c = 0 := by omega
    by_cases hpu : p = up
    · subst hpu
      have eT := told_c (s := p) hG6 uq (by omega)
      rw [wq] at eT
      rw [if_pos (Or.inr rfl), Int.add_zero]
      obtain ⟨z, e, hz⟩ := told_out p (A / c)
      rw [hz] at eT ⊢
      obtain ⟨js, hj⟩ := kk.behind
      cases p <;> rcases uq.shape with rfl | ⟨_, _, _, rfl⟩ | ⟨_, _, _, rfl⟩
      all_goals
        simp (maxDischargeDepth := 9) -implicitDefEqProofs only [push_cast, simprocAttr, M68, nadd1, nadd2, nadd3, nadd4, nadd5, nadd6, nadd7, nadd8, nadd9, nadd10, nadd11, nadd12, hc, e1, n1, i1, e2, n2, i2, e3, nx, ix, hY, hH4, bY, lY, b4, l4, lo4, lo3, e5, ny, iy, e6, nq, iq, nt, it, lt, hT', b6, l6, eT, decide_false, Bool.not_false, Bool.and_true]
        exact ⟨rfl, ⟨js, hj⟩, rfl⟩
    · have hG6' : Good (H6 ++ [⟨.tip false, .ints .u32 [1]⟩]) := good_app hG6 rfl
      have uone : UV (H6 ++ [⟨.tip false, .ints .u32 [1]⟩]) (.sl H6.length 0 1 1) [1] := ⟨Dig.one (by decide) (by decide), Or.inr ⟨H6.length, 1, .tip false, [1], false, end_get4 _ _ _, Or.inr ⟨_, rfl⟩, Nat.le_refl _, rfl, Or.inl ⟨rfl, Nat.le_refl _⟩⟩⟩
      obtain ⟨q2, j7, e7, ⟨Q2, uq2, wq2, lq2, _⟩, hG7, _⟩ := plus_c hG6' (uq.app _) uone (by omega) (by decide)
      have k7 : Keeps H6 ((H6 ++ [⟨.tip false, .ints .u32 [1]⟩]) ++ j7) none := keepsT (Keeps.app _ _ _ rfl) (keepsG hG7)
      obtain ⟨H7, hH7⟩ : ∃ H, (H6 ++ [(⟨.tip false, .ints .u32 [1]⟩ : ABlk)]) ++ j7 = H := ⟨_, rfl⟩
      rw [hH7] at e7 uq2 hG7 k7
      have b7 := keepsN k7 _ _ b6
      have l7 := (List.getElem?_eq_some_iff.1 b7).1
      have eT := told_c (s := p) hG7 uq2 (by simp at lq2; omega)
      have h1 : val [1] = 1 := by simp [val]
      rw [wq2, wq, h1] at eT
      rw [if_neg (by rintro (e | e); exact hnz e; exact hpu e)]
      obtain ⟨z, e, hz⟩ := told_out p (A / c + 1)
      rw [hz] at eT ⊢
      obtain ⟨js, hj⟩ := (keepsT kk k7).behind
      have n7 := uq2.na
      have i7 := uq2.cell
      cases p <;> cases up <;> first | exact absurd rfl hpu | rcases uq2.shape with rfl | ⟨_, _, _, rfl⟩ | ⟨_, _, _, rfl⟩
      all_goals
        simp (maxDischargeDepth := 9) -implicitDefEqProofs only [push_cast, simprocAttr, M68, nadd1, nadd2, nadd3, nadd4, nadd5, nadd6, nadd7, nadd8, nadd9, nadd10, nadd11, nadd12, hc, e1, n1, i1, e2, n2, i2, e3, nx, ix, hY, hH4, bY, lY, b4, l4, lo4, lo3, e5, ny, iy, e6, nq, iq, nt, it, lt, hT', b6, l6, e7, n7, i7, b7, l7, eT, decide_false, Bool.not_false, Bool.and_true]
        exact ⟨rfl, ⟨js, hj⟩, rfl⟩
  · have hT' : ¬ (0 : Int) < (m : Int) := by omega
    obtain rfl : T = [] := List.eq_nil_of_length_eq_zero (by omega)
    have hz : A % c = 0 := by rw [← wt]; rfl
    have eT := told_c (s := p) hG6 uq (by omega)
    rw [wq] at eT
    rw [if_pos (Or.inl hz), Int.add_zero]
    obtain ⟨z, e, hz'⟩ := told_out p (A / c)
    rw [hz'] at eT ⊢
    obtain ⟨js, hj⟩ := kk.behind
    rcases uq.shape with rfl | ⟨_, _, _, rfl⟩ | ⟨_, _, _, rfl⟩
    all_goals
      simp (maxDischargeDepth := 9) -implicitDefEqProofs only [push_cast, simprocAttr, M68, nadd1, nadd2, nadd3, nadd4, nadd5, nadd6, nadd7, nadd8, nadd9, nadd10, nadd11, nadd12, hc, e1, n1, i1, e2, n2, i2, e3, nx, ix, hY, hH4, bY, lY, b4, l4, lo4, lo3, e5, ny, iy, e6, nq, iq, nt, it, lt, hT', b6, l6, eT, decide_false, Bool.not_false, Bool.and_true]
      exact ⟨rfl, ⟨js, hj⟩, rfl⟩
end
end Go.Proofs.YthcjmmngenogmaaW.AI.E
