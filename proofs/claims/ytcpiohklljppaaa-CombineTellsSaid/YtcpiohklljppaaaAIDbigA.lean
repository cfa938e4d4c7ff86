import Derived.Test.YtcpiohklljppaaaAIDbase
import Derived.Test.YtcpiohklljppaaaAIBig
namespace Go.Proofs.YtcpiohklljppaaaW.AI.D
open Go Go.Proofs.YtcpiohklljppaaaW.AI
set_option maxRecDepth 100000
set_option linter.unusedSimpArgs false
set_option linter.unusedVariables false
set_option linter.unusedSectionVars false
theorem gl_good : Good CP.gl := rfl
section
variable {h : AHeap} {a b : AV} {LA LB : List Int}
theorem at_c {i : Nat} (hg : Good h) (u : UV h a LA) (hl : LA.length < 1000000) (hi : i < 1000000) : W CP 93 [a, .int .i64 (i : Int)] h = some (.int .u32 (datL LA i), h, []) := by
  refine W_bothB (m := M93) (fun g => UV g a LA) (fun _ => rfl) rfl rfl rfl gl_good (fun h0 => u.gl (by simp only [AV.lts, Bool.and_eq_true] at h0; exact h0.1)) (fun g hg u => ?_) hg u
  have na := u.na
  have la := u.len
  obtain ⟨n, hn⟩ : ∃ n, LA.length = n := ⟨_, rfl⟩
  rw [hn] at la hl
  by_cases hlt : i < n
  · have hlt' : (i : Int) < (n : Int) := by omega
    obtain ⟨bb, e1, e2, _⟩ := u.at (datL_get (show i < LA.length by omega))
    simp (maxDischargeDepth := 9) -implicitDefEqProofs only [push_cast, simprocAttr, M93, na, la, hlt', ↓uia_eq, e1, ↓uld_eq 11, e2]
    exact quietB
  · have hlt' : ¬ (i : Int) < (n : Int) := by omega
    rw [datL_ge (by omega)]
    simp (maxDischargeDepth := 9) -implicitDefEqProofs only [push_cast, simprocAttr, M93, na, la, hlt']
    exact quietB
set_option maxHeartbeats 16000000 in
theorem plus_c (hg : Good h) (ua : UV h a LA) (ub : UV h b LB) (hla : LA.length < 1000) (hlb : LB.length < 1000) :
    ∃ v js, W CP 84 [a, b] h = some (v, h ++ js, []) ∧ PlusR LA LB (h ++ js) v ∧ Good (h ++ js) ∧ (v.lt h.length = true → js = []) := by
  refine W_any (m := M84) (fun g => UV g a LA ∧ UV g b LB) (PlusR LA LB) (fun _ => rfl) rfl rfl gl_good (fun h0 => ?_) PlusR.up PlusR.down (fun g hg hi => ?_) hg ⟨ua, ub⟩
  · simp only [AV.lts, Bool.and_eq_true] at h0
    exact ⟨ua.gl h0.1, ub.gl h0.2.1⟩
  obtain ⟨ua, ub⟩ := hi
  have na := ua.na
  have nb := ub.na
  have la := ua.len
  have lb := ub.len
  have dA := ua.1
  have dB := ub.1
  obtain ⟨m, hm⟩ : ∃ m, LA.length = m := ⟨_, rfl⟩
  obtain ⟨n, hn⟩ : ∃ n, LB.length = n := ⟨_, rfl⟩
  rw [hm] at la hla
  rw [hn] at lb hlb
  obtain ⟨N, hN⟩ : ∃ N, max m n = N := ⟨_, rfl⟩
  simp (maxDischargeDepth := 9) -implicitDefEqProofs only [push_cast, simprocAttr, M84, na, nb]
  refine wp_kRes (wp_kSeq (wp_kBlock ?_))
  refine wp_loop (fun k x h' ws => ∃ (i : Nat) (o : AV) (c : Int) (O : List Int), k = N + 2 - i ∧ i ≤ N + 1 ∧ x = [(0, a), (1, b), (5, o), (6, .int .u32 c), (7, .int .i64 (i : Int))] ∧ T4 h' o O g.length ∧ Dig O ∧ O.length = i ∧ val O + c * 65536 ^ i = val (LA.take i) + val (LB.take i) ∧ 0 ≤ c ∧ c ≤ 1 ∧ (i = N + 1 → c = 0 ∧ 65536 ^ N ≤ val LA + val LB) ∧ Keeps g h' none ∧ ws = []) (N + 2) ?_ ?_
  · refine ⟨0, .nils, 0, [], by omega, by omega, ?_, Or.inl ⟨rfl, rfl⟩, Dig.nil, rfl, by simp [val], by omega, by omega, by omega, Keeps.refl _ _, rfl⟩
    simp (maxDischargeDepth := 9) -implicitDefEqProofs only [push_cast, simprocAttr, na, nb]; try rfl
  · rintro k xx h' ws ⟨i, o, c, O, rfl, hi, rfl, t, dO, lO, hv, c0, c1, hend, kp, rfl⟩
    have hgh := kp.2.2 hg
    have uo := t.uv dO
    have no := uo.na
    have uah := ua.keep (keepsN kp)
    have ubh := ub.keep (keepsN kp)
    have e1 := at_c (i := i) hgh uah (by omega) (by omega)
    have e2 := at_c (i := i) hgh ubh (by omega) (by omega)
    have hx := datL_in dA i
    have hy := datL_in dB i
    have vA := val_take LA i
    have vB := val_take LB i
    obtain ⟨x, hx1⟩ : ∃ x, datL LA i = x := ⟨_, rfl⟩
    obtain ⟨y, hy1⟩ : ∃ y, datL LB i = y := ⟨_, rfl⟩
    rw [hx1] at e1 hx vA
    rw [hy1] at e2 hy vB
    have w1 : IntKind.u32.wrap (x + y) = x + y := wr_u32 _ (by omega) (by omega)
    have w2 : IntKind.u32.wrap (x + y + c) = x + y + c := wr_u32 _ (by omega) (by omega)
    obtain ⟨r, hr⟩ : ∃ r, (x + y + c) % 65536 = r := ⟨_, rfl⟩
    obtain ⟨q, hq⟩ : ∃ q, (x + y + c) / 65536 = q := ⟨_, rfl⟩
    have m1 : Int.tmod (x + y + c) 65536 = r := by rw [Int.tmod_eq_emod_of_nonneg (by omega)]; exact hr
    have m2 : Int.tdiv (x + y + c) 65536 = q := by rw [Int.tdiv_eq_ediv_of_nonneg (by omega)]; exact hq
    have w3 : IntKind.u32.wrap r = r := wr_u32 _ (by omega) (by omega)
    have w4 : IntKind.u32.wrap q = q := wr_u32 _ (by omega) (by omega)
    have v1 : IntKind.i64.wrap ((i : Int) + 1) = (i : Int) + 1 := wr_i64 _ (by omega) (by omega)
    have hkb := keepsJ kp [⟨.tip false, .ints .u32 [r]⟩] rfl
    obtain ⟨o', H2, ws2, ea, t2, w5, k2⟩ := app4 (B := [r]) (m := 1) (t.keep (h' := h' ++ [⟨.tip false, .ints .u32 [r]⟩]) (fun q z e => by rw [List.getElem?_append_left (List.getElem?_eq_some_iff.1 e).1]; exact e)) rfl (by omega) hkb.2.1
    have en := new4 (H := h') r
    have d2 : Dig (O ++ [r]) := dO.app (Dig.one (by omega) (by omega))
    have kk : Keeps g H2 none := keepsO hg hkb k2 t.blk
    have no2 := (t2.uv d2).na
    have hwa : wadd g.length [] ws2 = [] := wadd_ge w5
    have hlo : ¬ h'.length < g.length := by have := kp.2.1; omega
    have hcast : (((i + 1 : Nat)) : Int) = (i : Int) + 1 := by omega
    have hP := pow_pos' i
    by_cases hcont : (i : Int) < (m : Int) ∨ (i : Int) < (n : Int) ∨ 0 < c
    · have hiN : i ≤ N := by
        rcases hcont with h | h | h
        · omega
        · omega
        · by_cases e : i = N + 1
          · have := (hend e).1; omega
          · omega
      have hv2 : val (O ++ [r]) + q * 65536 ^ (i + 1) = val (LA.take (i + 1)) + val (LB.take (i + 1)) := by
        rw [val_snoc, lO, vA, vB, Int.pow_succ]
        have e : x + y + c = 65536 * q + r := by omega
        have : r * 65536 ^ i + q * (65536 ^ i * 65536) = (x + y + c) * 65536 ^ i := by rw [e]; grind
        have h2 : (x + y + c) * 65536 ^ i = x * 65536 ^ i + y * 65536 ^ i + c * 65536 ^ i := by grind
        omega
      have hend2 : i + 1 = N + 1 → q = 0 ∧ 65536 ^ N ≤ val LA + val LB := by
        intro e
        have hiN2 : i = N := by omega
        have hx0 : x = 0 := by rw [← hx1]; exact datL_ge (by omega)
        have hy0 : y = 0 := by rw [← hy1]; exact datL_ge (by omega)
        have hc1 : 0 < c := by rcases hcont with h | h | h <;> omega
        have hc2 : c = 1 := by omega
        refine ⟨by omega, ?_⟩
        rw [val_all LA (by omega), val_all LB (by omega), hc2, hiN2] at hv
        have := (val_bound dO).1
        omega
      rcases hcont with e1' | e2' | e3'
      · simp (maxDischargeDepth := 9) -implicitDefEqProofs only [push_cast, simprocAttr, nadd1, nadd2, nadd3, nadd4, nadd5, nadd6, nadd7, nadd8, nadd9, nadd10, nadd11, nadd12, na, nb, la, lb, no, e1', e1, e2, w1, w2, m1, m2, w3, w4, en, ea, hwa, no2, hlo, v1]
        refine loop_next (N + 2 - (i + 1)) (by omega) ⟨i + 1, o', q, O ++ [r], rfl, by omega, ?_, t2, d2, by simp [lO], hv2, by omega, by omega, hend2, kk, rfl⟩
        rw [hcast]
        simp (maxDischargeDepth := 9) -implicitDefEqProofs only [push_cast, simprocAttr, na, nb, no2]; try simp
      · by_cases e1' : (i : Int) < (m : Int)
        all_goals
          simp (maxDischargeDepth := 9) -implicitDefEqProofs only [push_cast, simprocAttr, nadd1, nadd2, nadd3, nadd4, nadd5, nadd6, nadd7, nadd8, nadd9, nadd10, nadd11, nadd12, na, nb, la, lb, no, e1', e2', e1, e2, w1, w2, m1, m2, w3, w4, en, ea, hwa, no2, hlo, v1]
          refine loop_next (N + 2 - (i + 1)) (by omega) ⟨i + 1, o', q, O ++ [r], rfl, by omega, ?_, t2, d2, by simp [lO], hv2, by omega, by omega, hend2, kk, rfl⟩
          rw [hcast]
          simp (maxDischargeDepth := 9) -implicitDefEqProofs only [push_cast, simprocAttr, na, nb, no2]; try simp
      · by_cases e1' : (i : Int) < (m : Int) <;> by_cases e2' : (i : Int) < (n : Int)
        all_goals
          simp (maxDischargeDepth := 9) -implicitDefEqProofs only [push_cast, simprocAttr, nadd1, nadd2, nadd3, nadd4, nadd5, nadd6, nadd7, nadd8, nadd9, nadd10, nadd11, nadd12, na, nb, la, lb, no, e1', e2', e3', e1, e2, w1, w2, m1, m2, w3, w4, en, ea, hwa, no2, hlo, v1]
          refine loop_next (N + 2 - (i + 1)) (by omega) ⟨i + 1, o', q, O ++ [r], rfl, by omega, ?_, t2, d2, by simp [lO], hv2, by omega, by omega, hend2, kk, rfl⟩
          rw [hcast]
          simp (maxDischargeDepth := 9) -implicitDefEqProofs only [push_cast, simprocAttr, na, nb, no2]; try simp
    · have f1 : ¬ (i : Int) < (m : Int) := fun h => hcont (Or.inl h)
      have f2 : ¬ (i : Int) < (n : Int) := fun h => hcont (Or.inr (Or.inl h))
      have f3 : ¬ 0 < c := fun h => hcont (Or.inr (Or.inr h))
      have hc0 : c = 0 := by omega
      rw [val_all LA (by omega), val_all LB (by omega), hc0] at hv
      have hres : PlusR LA LB h' o := by
        refine ⟨O, uo, by omega, by rw [hm, hn, hN]; omega, fun cA cB => can_of dO fun hne => ?_⟩
        have h0 : 0 < i := by rcases Nat.eq_zero_or_pos i with e | e; · exact absurd (List.length_eq_zero_iff.1 (by omega)) hne
                              · exact e
        rw [lO]
        by_cases e : i = N + 1
        · have := (hend e).2
          rw [show i - 1 = N by omega]
          omega
        · have hiN : i = N := by omega
          have pA := (val_bound dA).1
          have pB := (val_bound dB).1
          rcases (show m = N ∨ n = N by omega) with h | h
          · have := val_low dA cA (by intro e; rw [e] at hm; simp at hm; omega)
            rw [hm, show m - 1 = i - 1 by omega] at this
            omega
          · have := val_low dB cB (by intro e; rw [e] at hn; simp at hn; omega)
            rw [hn, show n - 1 = i - 1 by omega] at this
            omega
      simp (maxDischargeDepth := 9) -implicitDefEqProofs only [push_cast, simprocAttr, nadd1, nadd2, nadd3, nadd4, nadd5, nadd6, nadd7, nadd8, nadd9, nadd10, nadd11, nadd12, na, nb, la, lb, no, f1, f2, f3]
      exact ⟨hres, kp⟩
end
end Go.Proofs.YtcpiohklljppaaaW.AI.D
namespace Go.Proofs.YtcpiohklljppaaaW.AI.D
open Go Go.Proofs.YtcpiohklljppaaaW.AI
set_option maxRecDepth 100000
set_option linter.unusedSimpArgs false
set_option linter.unusedVariables false
set_option linter.unusedSectionVars false
section
variable {h : AHeap} {a b : AV} {LA LB : List Int}
set_option maxHeartbeats 16000000 in
theorem less_c (hg : Good h) (ua : UV h a LA) (ub : UV h b LB) (hla : LA.length < 1000) (hlb : LB.length ≤ LA.length) (hle : val LB ≤ val LA) :
    ∃ v js, W CP 90 [a, b] h = some (v, h ++ js, []) ∧ LessR LA LB (h ++ js) v ∧ Good (h ++ js) ∧ (v.lt h.length = true → js = []) := by
  refine W_any (m := M90) (fun g => UV g a LA ∧ UV g b LB) (LessR LA LB) (fun _ => rfl) rfl rfl gl_good (fun h0 => ?_) LessR.up LessR.down (fun g hg hi => ?_) hg ⟨ua, ub⟩
  · simp only [AV.lts, Bool.and_eq_true] at h0
    exact ⟨ua.gl h0.1, ub.gl h0.2.1⟩
  obtain ⟨ua, ub⟩ := hi
  have na := ua.na
  have nb := ub.na
  have la := ua.len
  have dA := ua.1
  have dB := ub.1
  obtain ⟨m, hm⟩ : ∃ m, LA.length = m := ⟨_, rfl⟩
  rw [hm] at la hla hlb
  simp (maxDischargeDepth := 9) -implicitDefEqProofs only [push_cast, simprocAttr, M90, na, nb]
  refine wp_kRes (wp_kSeq (wp_kBlock ?_))
  refine wp_loop (fun k x h' ws => ∃ (i : Nat) (o : AV) (c : Int) (O : List Int), k = m - i ∧ i ≤ m ∧ x = [(0, a), (1, b), (5, o), (6, .int .u32 c), (7, .int .i64 (i : Int))] ∧ T4 h' o O g.length ∧ Dig O ∧ O.length = i ∧ val O + val (LB.take i) = val (LA.take i) + c * 65536 ^ i ∧ 0 ≤ c ∧ c ≤ 1 ∧ Keeps g h' none ∧ ws = []) m ?_ ?_
  · refine ⟨0, .nils, 0, [], by omega, by omega, ?_, Or.inl ⟨rfl, rfl⟩, Dig.nil, rfl, by simp [val], by omega, by omega, Keeps.refl _ _, rfl⟩
    simp (maxDischargeDepth := 9) -implicitDefEqProofs only [push_cast, simprocAttr, na, nb]; try rfl
  · rintro k xx h' ws ⟨i, o, c, O, rfl, hi, rfl, t, dO, lO, hv, c0, c1, kp, rfl⟩
    have hgh := kp.2.2 hg
    have uo := t.uv dO
    have no := uo.na
    have uah := ua.keep (keepsN kp)
    have ubh := ub.keep (keepsN kp)
    by_cases hlt : i < m
    · have hlt' : (i : Int) < (m : Int) := by omega
      have e2 := at_c (i := i) hgh ubh (by omega) (by omega)
      obtain ⟨bb, cc, ea1, ea2, hbl, hbs⟩ := uah.at' (datL_get (show i < LA.length by omega))
      have hx := datL_in dA i
      have hy := datL_in dB i
      have vA := val_take LA i
      have vB := val_take LB i
      obtain ⟨x, hx1⟩ : ∃ x, datL LA i = x := ⟨_, rfl⟩
      obtain ⟨y, hy1⟩ : ∃ y, datL LB i = y := ⟨_, rfl⟩
      rw [hx1] at ea2 hx vA
      rw [hy1] at e2 hy vB
      have w1 : IntKind.u32.wrap (65536 + x) = 65536 + x := wr_u32 _ (by omega) (by omega)
      have w2 : IntKind.u32.wrap (65536 + x - y) = 65536 + x - y := wr_u32 _ (by omega) (by omega)
      have w2' : IntKind.u32.wrap (65536 + x - y - c) = 65536 + x - y - c := wr_u32 _ (by omega) (by omega)
      obtain ⟨z, hz⟩ : ∃ z, 65536 + x - y - c = z := ⟨_, rfl⟩
      rw [hz] at w2'
      obtain ⟨r, hr⟩ : ∃ r, z % 65536 = r := ⟨_, rfl⟩
      obtain ⟨q, hq⟩ : ∃ q, z / 65536 = q := ⟨_, rfl⟩
      have m1 : Int.tmod z 65536 = r := by rw [Int.tmod_eq_emod_of_nonneg (by omega)]; exact hr
      have m2 : Int.tdiv z 65536 = q := by rw [Int.tdiv_eq_ediv_of_nonneg (by omega)]; exact hq
      have w3 : IntKind.u32.wrap r = r := wr_u32 _ (by omega) (by omega)
      have w4 : IntKind.u32.wrap q = q := wr_u32 _ (by omega) (by omega)
      have w6 : IntKind.u32.wrap (1 - q) = 1 - q := wr_u32 _ (by omega) (by omega)
      have v1 : IntKind.i64.wrap ((i : Int) + 1) = (i : Int) + 1 := wr_i64 _ (by omega) (by omega)
      have hkb := keepsJ kp [⟨.tip false, .ints .u32 [r]⟩] rfl
      obtain ⟨o', H2, ws2, ea, t2, w5, k2⟩ := app4 (B := [r]) (m := 1) (t.keep (h' := h' ++ [⟨.tip false, .ints .u32 [r]⟩]) (fun q z e => by rw [List.getElem?_append_left (List.getElem?_eq_some_iff.1 e).1]; exact e)) rfl (by omega) hkb.2.1
      have en := new4 (H := h') r
      have d2 : Dig (O ++ [r]) := dO.app (Dig.one (by omega) (by omega))
      have kk : Keeps g H2 none := keepsO hg hkb k2 t.blk
      have no2 := (t2.uv d2).na
      have hwa : wadd g.length [] ws2 = [] := wadd_ge w5
      have hlo : ¬ h'.length < g.length := by have := kp.2.1; omega
      have hcast : (((i + 1 : Nat)) : Int) = (i : Int) + 1 := by omega
      have hv2 : val (O ++ [r]) + val (LB.take (i + 1)) = val (LA.take (i + 1)) + (1 - q) * 65536 ^ (i + 1) := by
        rw [val_snoc, lO, vA, vB, Int.pow_succ]
        have e : 65536 + x - y - c = 65536 * q + r := by omega
        have h2 : (65536 + x - y - c) * 65536 ^ i = 65536 * 65536 ^ i + x * 65536 ^ i - y * 65536 ^ i - c * 65536 ^ i := by grind
        have h3 : (65536 + x - y - c) * 65536 ^ i = 65536 * (q * 65536 ^ i) + r * 65536 ^ i := by rw [e]; grind
        have h4 : (1 - q) * (65536 ^ i * 65536) = 65536 * 65536 ^ i - 65536 * (q * 65536 ^ i) := by grind
        omega
      have hble : ¬ h'.length ≤ bb := by omega
      rcases hbs with hbs | ⟨oo, hbs⟩
      all_goals
        simp (maxDischargeDepth := 9) -implicitDefEqProofs only [push_cast, simprocAttr, nadd1, nadd2, nadd3, nadd4, nadd5, nadd6, nadd7, nadd8, nadd9, nadd10, nadd11, nadd12, na, nb, la, no, hlt', ↓uia_eq, ea1, ↓uld_eq 17, ea2, e2, w1, w2, hz, w2', m1, m2, w3, w4, w6, en, ea, hwa, no2, hlo, v1, hble, hbs, decide_false, Bool.not_false, Bool.and_true]
        refine loop_next (m - (i + 1)) (by omega) ⟨i + 1, o', 1 - q, O ++ [r], rfl, by omega, ?_, t2, d2, by simp [lO], hv2, by omega, by omega, kk, rfl⟩
        rw [hcast]
        simp (maxDischargeDepth := 9) -implicitDefEqProofs only [push_cast, simprocAttr, na, nb, no2]; try simp
    · have hi2 : i = m := by omega
      have hnl : ¬ (i : Int) < (m : Int) := by omega
      rw [val_all LA (by omega), val_all LB (by omega)] at hv
      have hres : LessR LA LB h' o := by
        refine ⟨O, uo, ?_, by omega⟩
        have hb := val_bound dO
        rw [lO] at hb
        have hc : c = 0 := by
          rcases (show c = 0 ∨ c = 1 by omega) with e | e
          · exact e
          · rw [e] at hv; omega
        rw [hc] at hv
        omega
      simp (maxDischargeDepth := 9) -implicitDefEqProofs only [push_cast, simprocAttr, nadd1, nadd2, nadd3, nadd4, nadd5, nadd6, nadd7, nadd8, nadd9, nadd10, nadd11, nadd12, na, nb, la, no, hnl]
      exact ⟨hres, kp⟩
/-- Zeros at the end away. -/
theorem trim_c {s : Bool} (hg : Good h) (ua : UV h a LA) (hla : LA.length < 1000) :
    ∃ r js, W CP 88 [.agg [.bool s, a]] h = some (r, h ++ js, []) ∧ BigR (s && decide (val LA ≠ 0)) (val LA) LA.length (h ++ js) r ∧ Good (h ++ js) ∧ (r.lt h.length = true → js = []) := by
  refine W_any (m := M88) (fun g => UV g a LA) (BigR (s && decide (val LA ≠ 0)) (val LA) LA.length) (fun _ => rfl) rfl rfl gl_good (fun h0 => ?_) BigR.up BigR.down (fun g hg ua => ?_) hg ua
  · simp only [AV.lts, AV.lt, Bool.and_eq_true] at h0
    exact ua.gl h0.1.2.1
  have na := ua.na
  have ca := ua.cell
  have dA := ua.1
  obtain ⟨m, hm⟩ : ∃ m, LA.length = m := ⟨_, rfl⟩
  rw [hm] at hla ⊢
  simp (maxDischargeDepth := 9) -implicitDefEqProofs only [push_cast, simprocAttr, M88, na, ca]
  refine wp_kRes (wp_kSeq (wp_kBlock ?_))
  refine wp_loop (fun k x h' ws => ∃ (j : Nat) (w : AV), k = j + 1 ∧ j ≤ m ∧ x = [(1, .ptr g.length 0), (2, .ptr (g.length + 1) 0)] ∧ UV g w (LA.take j) ∧ val (LA.take j) = val LA ∧ h' = g ++ [⟨.tip false, .vals [.bool s, w]⟩, ⟨.tip false, .vals [.bool false, .nils]⟩] ∧ ws = []) (m + 1) ?_ ?_
  · refine ⟨m, a, rfl, by omega, ?_, by rw [← hm, List.take_length]; exact ua, by rw [← hm, List.take_length], rfl, rfl⟩
    simp (maxDischargeDepth := 9) -implicitDefEqProofs only [push_cast, simprocAttr]; try rfl
  · rintro k xx h' ws ⟨j, w, rfl, hj, rfl, uw, hv, rfl, rfl⟩
    have lw := uw.len
    have nw := uw.na
    have cw := uw.cell
    have hl : (LA.take j).length = j := by rw [List.length_take]; omega
    rw [hl] at lw
    have dw := dA.take j
    by_cases h0 : 0 < j
    · obtain ⟨i, rfl⟩ : ∃ i, j = i + 1 := ⟨j - 1, by omega⟩
      have hpos : (0 : Int) < ((i + 1 : Nat) : Int) := by omega
      have w1 : IntKind.i64.wrap (((i + 1 : Nat) : Int) - 1) = (i : Int) := by rw [wr_i64 _ (by omega) (by omega)]; omega
      have uw2 := uw.app [⟨.tip false, .vals [.bool s, w]⟩, ⟨.tip false, .vals [.bool false, .nils]⟩]
      have hd : (LA.take (i + 1))[i]? = some (datL LA i) := by rw [List.getElem?_take, if_pos (by omega)]; exact datL_get (by omega)
      obtain ⟨bb, e1, e2, hbl⟩ := uw2.at hd
      obtain ⟨w', e3, u3, _⟩ := uw.cut (k := i) (by omega)
      rw [List.take_take, Nat.min_eq_left (by omega)] at u3
      have n3 := u3.na
      have c3 := u3.cell
      have vT := val_take LA i
      have hdi := datL_in dA i
      obtain ⟨d, hd1⟩ : ∃ d, datL LA i = d := ⟨_, rfl⟩
      rw [hd1] at e2 vT hdi
      obtain ⟨ii, hii⟩ : ∃ z : Int, ((i + 1 : Nat) : Int) = z := ⟨_, rfl⟩
      rw [hii] at hpos w1
      have lw' : slen w = some (i + 1) := lw
      have q1 : ¬ g.length + 1 = g.length := by omega
      rcases Classical.propComplete (d = 0) with c5 | c5
      · have hvn : val (LA.take i) = val LA := by
          have : d = 0 := of_eq_true c5
          rw [← hv, vT, this]; omega
        rcases u3.shape with rfl | ⟨_, _, _, rfl⟩ | ⟨_, _, _, rfl⟩
        all_goals
          simp (maxDischargeDepth := 9) -implicitDefEqProofs only [push_cast, simprocAttr, nadd1, nadd2, nadd3, nadd4, nadd5, nadd6, nadd7, nadd8, nadd9, nadd10, nadd11, nadd12, lw', hii, hpos, w1, nw, cw, ↓uia_eq, e1, ↓uld_eq 14, e2, c5, decide_true, ↓ucut_eq, e3, n3, c3, q1]
          refine loop_next (i + 1) (by omega) ⟨i, _, rfl, by omega, ?_, u3, hvn, rfl, rfl⟩
          simp (maxDischargeDepth := 9) -implicitDefEqProofs only [push_cast, simprocAttr]; try rfl
      · have hcan : Can (LA.take (i + 1)) := by
          refine can_of dw fun hne => ?_
          have hT := (val_bound (dA.take i)).1
          have hp := pow_pos' i
          have : d ≠ 0 := of_eq_false c5
          have h1 : 1 * (65536 : Int) ^ i ≤ d * 65536 ^ i := Int.mul_le_mul_of_nonneg_right (by omega) (Int.le_of_lt hp)
          rw [hl, vT, Nat.add_sub_cancel]
          omega
        have hne : val LA ≠ 0 := by
          rw [← hv]
          intro e
          have := can_zero dw hcan e
          rw [this] at hl
          simp at hl
        have hs : (s && decide (val LA ≠ 0)) = s := by rw [decide_eq_true hne, Bool.and_true]
        rw [hs]
        have h00 : ¬ ii = 0 := by omega
        simp (maxDischargeDepth := 9) -implicitDefEqProofs only [push_cast, simprocAttr, nadd1, nadd2, nadd3, nadd4, nadd5, nadd6, nadd7, nadd8, nadd9, nadd10, nadd11, nadd12, lw', hii, hpos, w1, nw, cw, ↓uia_eq, e1, ↓uld_eq 14, e2, c5, decide_false, h00, q1]
        refine ⟨⟨w, LA.take (i + 1), rfl, uw.app _, hv, hcan, by omega⟩, Keeps.app _ _ _ rfl⟩
    · obtain rfl : j = 0 := by omega
      have hv0 : val LA = 0 := by rw [← hv]; rfl
      have hs : (s && decide (val LA ≠ 0)) = false := by rw [hv0]; simp
      rw [hs]
      have q1 : ¬ g.length + 1 = g.length := by omega
      have lw' : slen w = some 0 := lw
      simp (maxDischargeDepth := 9) -implicitDefEqProofs only [push_cast, simprocAttr, nadd1, nadd2, nadd3, nadd4, nadd5, nadd6, nadd7, nadd8, nadd9, nadd10, nadd11, nadd12, lw', nw, cw, q1]
      refine ⟨⟨w, [], rfl, ?_, by rw [hv0]; rfl, can_nil, by simp⟩, Keeps.app _ _ _ rfl⟩
      exact uw.app _
end
end Go.Proofs.YtcpiohklljppaaaW.AI.D
namespace Go.Proofs.YtcpiohklljppaaaW.AI.D
open Go Go.Proofs.YtcpiohklljppaaaW.AI
set_option maxRecDepth 100000
set_option linter.unusedSimpArgs false
set_option linter.unusedVariables false
set_option linter.unusedSectionVars false
theorem wrapu64 (x : Int) : IntKind.u64.wrap x = x % 18446744073709551616 := by
  simp only [IntKind.wrap, IntKind.bits, IntKind.signed]
  simp
theorem wrapi64 (x : Int) : IntKind.i64.wrap x = if x % 18446744073709551616 < 9223372036854775808 then x % 18446744073709551616 else x % 18446744073709551616 - 18446744073709551616 := by
  simp only [IntKind.wrap, IntKind.bits, IntKind.signed]
  simp
  split <;> split <;> omega
/-- Equal above, not equal here: this digit decides. -/
theorem val_cmp {LA LB : List Int} {i : Nat} (dA : Dig LA) (dB : Dig LB) (hA : i < LA.length) (hB : i < LB.length) (he : LA.drop (i + 1) = LB.drop (i + 1)) (hne : datL LA i ≠ datL LB i) : datL LA i < datL LB i ↔ val LA < val LB := by
  have vA := val_drop LA i
  have vB := val_drop LB i
  rw [val_cons_drop hA, he] at vA
  rw [val_cons_drop hB] at vB
  have bA := val_bound (dA.take i)
  have bB := val_bound (dB.take i)
  rw [List.length_take, Nat.min_eq_left (by omega)] at bA bB
  obtain ⟨x, hx⟩ : ∃ x, datL LA i = x := ⟨_, rfl⟩
  obtain ⟨y, hy⟩ : ∃ y, datL LB i = y := ⟨_, rfl⟩
  obtain ⟨P, hP⟩ : ∃ P : Int, 65536 ^ i = P := ⟨_, rfl⟩
  obtain ⟨Z, hZ⟩ : ∃ Z, val (LB.drop (i + 1)) = Z := ⟨_, rfl⟩
  rw [hx] at vA hne ⊢
  rw [hy] at vB hne ⊢
  rw [hP] at bA bB vA vB
  rw [hZ] at vA vB
  have eA : P * (x + 65536 * Z) = P * x + P * (65536 * Z) := Int.mul_add _ _ _
  have eB : P * (y + 65536 * Z) = P * y + P * (65536 * Z) := Int.mul_add _ _ _
  have hP0 : 0 < P := by rw [← hP]; exact pow_pos' i
  constructor
  · intro h
    have : P * (x + 1) ≤ P * y := Int.mul_le_mul_of_nonneg_left (by omega) (by omega)
    rw [Int.mul_add, Int.mul_one] at this
    omega
  · intro h
    rcases Int.lt_or_gt_of_ne hne with h1 | h1
    · exact h1
    · have : P * (y + 1) ≤ P * x := Int.mul_le_mul_of_nonneg_left (by omega) (by omega)
      rw [Int.mul_add, Int.mul_one] at this
      omega
theorem drop_eq_step {LA LB : List Int} {i : Nat} (hA : i < LA.length) (hB : i < LB.length) (he : LA.drop (i + 1) = LB.drop (i + 1)) (hd : datL LA i = datL LB i) : LA.drop i = LB.drop i := by
  rw [List.drop_eq_getElem_cons hA, List.drop_eq_getElem_cons hB, he]
  rw [datL_lt (List.getElem?_eq_getElem hA), datL_lt (List.getElem?_eq_getElem hB)] at hd
  rw [hd]
theorem end_get4 (h : AHeap) (z : ABlk) (ks : AHeap) : (h ++ z :: ks)[h.length]? = some z := by
  rw [List.getElem?_append_right (by omega)]; simp
theorem _root_.Go.Proofs.YtcpiohklljppaaaW.AI.T4.set {h : AHeap} {v : AV} {L : List Int} {n q : Nat} {z : ABlk} (t : T4 h v L n) (hq : q < n) : T4 (h.set q z) v L n := by
  rcases t with k | ⟨p, h0, ⟨e, hp⟩ | ⟨o, mn, e, hp⟩⟩
  · exact Or.inl k
  · exact Or.inr ⟨p, h0, Or.inl ⟨e, by rw [List.getElem?_set_ne (by omega)]; exact hp⟩⟩
  · exact Or.inr ⟨p, h0, Or.inr ⟨o, mn, e, by rw [List.getElem?_set_ne (by omega)]; exact hp⟩⟩
section
variable {h : AHeap} {a b : AV} {LA LB : List Int}
set_option maxHeartbeats 4000000 in
theorem Less_c (hg : Good h) (ua : UV h a LA) (ub : UV h b LB) (cA : Can LA) (cB : Can LB) (hla : LA.length < 1000) (hlb : LB.length < 1000) : W CP 89 [a, b] h = some (.bool (decide (val LA < val LB)), h, []) := by
  refine W_bothB (m := M89) (fun g => UV g a LA ∧ UV g b LB) (fun _ => rfl) rfl rfl rfl gl_good (fun h0 => ?_) (fun g hg hi => ?_) hg ⟨ua, ub⟩
  · simp only [AV.lts, Bool.and_eq_true] at h0
    exact ⟨ua.gl h0.1, ub.gl h0.2.1⟩
  obtain ⟨ua, ub⟩ := hi
  have na := ua.na
  have nb := ub.na
  have la := ua.len
  have lb := ub.len
  have dA := ua.1
  have dB := ub.1
  obtain ⟨m, hm⟩ : ∃ m, LA.length = m := ⟨_, rfl⟩
  obtain ⟨n, hn⟩ : ∃ n, LB.length = n := ⟨_, rfl⟩
  rw [hm] at la hla
  rw [hn] at lb hlb
  by_cases hmn : m = n
  · subst hmn
    have w1 : IntKind.i64.wrap ((m : Int) - 1) = (m : Int) - 1 := wr_i64 _ (by omega) (by omega)
    simp (maxDischargeDepth := 9) -implicitDefEqProofs only [push_cast, simprocAttr, M89, na, nb, la, lb, w1]
    refine wp_kRes (wp_kSeq (wp_kBlock ?_))
    refine wp_loop (fun k x h' ws => ∃ j : Nat, k = j + 1 ∧ j ≤ m ∧ x = [(0, a), (1, b), (5, .int .i64 ((j : Int) - 1))] ∧ LA.drop j = LB.drop j ∧ h' = g ∧ ws = []) (m + 1) ?_ ?_
    · refine ⟨m, rfl, by omega, ?_, by rw [List.drop_of_length_le (by omega), List.drop_of_length_le (by omega)], rfl, rfl⟩
      simp (maxDischargeDepth := 9) -implicitDefEqProofs only [push_cast, simprocAttr, na, nb]; try rfl
    · rintro k xx h' ws ⟨j, rfl, hj, rfl, he, rfl, rfl⟩
      by_cases h0 : 0 < j
      · obtain ⟨i, rfl⟩ : ∃ i, j = i + 1 := ⟨j - 1, by omega⟩
        have hji : ((i + 1 : Nat) : Int) - 1 = (i : Int) := by omega
        have hge : (0 : Int) ≤ (i : Int) := by omega
        have w2 : IntKind.i64.wrap ((i : Int) - 1) = (i : Int) - 1 := wr_i64 _ (by omega) (by omega)
        obtain ⟨p, e1, e2, _⟩ := ua.at (datL_get (show i < LA.length by omega))
        obtain ⟨q, e3, e4, _⟩ := ub.at (datL_get (show i < LB.length by omega))
        have hcmp := val_cmp dA dB (show i < LA.length by omega) (by omega) he
        have hstep := drop_eq_step (show i < LA.length by omega) (show i < LB.length by omega) he
        obtain ⟨x, hx⟩ : ∃ x, datL LA i = x := ⟨_, rfl⟩
        obtain ⟨y, hy⟩ : ∃ y, datL LB i = y := ⟨_, rfl⟩
        rw [hx] at e2 hcmp hstep
        rw [hy] at e4 hcmp hstep
        rw [hji]
        rcases Classical.propComplete (x = y) with c5 | c5
        · simp (maxDischargeDepth := 9) -implicitDefEqProofs only [push_cast, simprocAttr, nadd1, nadd2, nadd3, nadd4, nadd5, nadd6, nadd7, nadd8, nadd9, nadd10, nadd11, nadd12, na, nb, hge, ↓uia_eq, e1, ↓uld_eq 25, e2, e3, ↓uld_eq 29, e4, c5, w2, decide_true, Bool.not_true]
          refine loop_next (i + 1) (by omega) ⟨i, rfl, by omega, ?_, hstep (of_eq_true c5), rfl, rfl⟩
          simp (maxDischargeDepth := 9) -implicitDefEqProofs only [push_cast, simprocAttr, na, nb]; try simp
        · have hc2 : (x < y) = (val LA < val LB) := propext (hcmp (of_eq_false c5))
          simp (maxDischargeDepth := 9) -implicitDefEqProofs only [push_cast, simprocAttr, nadd1, nadd2, nadd3, nadd4, nadd5, nadd6, nadd7, nadd8, nadd9, nadd10, nadd11, nadd12, na, nb, hge, ↓uia_eq, e1, ↓uld_eq 25, e2, e3, ↓uld_eq 29, e4, c5, ↓uld_eq 35, ↓uld_eq 34, ↓uld_eq 38, decide_false, Bool.not_false, hc2]
          exact quietB
      · obtain rfl : j = 0 := by omega
        have hnl : ¬ (0 : Int) ≤ ((0 : Nat) : Int) - 1 := by decide
        rw [List.drop_zero, List.drop_zero] at he
        rw [he, decide_eq_false (Int.lt_irrefl _)]
        simp (maxDischargeDepth := 9) -implicitDefEqProofs only [push_cast, simprocAttr, nadd1, nadd2, nadd3, nadd4, nadd5, nadd6, nadd7, nadd8, nadd9, nadd10, nadd11, nadd12, hnl, na, nb]
        exact quietB
  · have hne : ¬ (m : Int) = (n : Int) := by omega
    have hc : decide (val LA < val LB) = decide ((m : Int) < (n : Int)) := by
      rcases Nat.lt_or_gt_of_ne hmn with h | h
      · rw [decide_eq_true (val_long dB cB dA (by omega)), decide_eq_true (by omega)]
      · have := val_long dA cA dB (show LB.length < LA.length by omega)
        rw [decide_eq_false (by omega), decide_eq_false (by omega)]
    rw [hc]
    simp (maxDischargeDepth := 9) -implicitDefEqProofs only [push_cast, simprocAttr, M89, na, nb, la, lb, hne]
    exact quietB
set_option maxHeartbeats 8000000 in
theorem Of_c {z : Int} (z0 : -9223372036854775808 ≤ z) (z1 : z ≤ 9223372036854775807) (hg : Good h) :
    ∃ r js, W CP 76 [.int .i64 z] h = some (r, h ++ js, []) ∧ BigR (decide (z < 0)) (if z < 0 then -z else z) 4 (h ++ js) r ∧ Good (h ++ js) ∧ (r.lt h.length = true → js = []) := by
  refine W_any (m := M76) (fun _ => True) (BigR (decide (z < 0)) (if z < 0 then -z else z) 4) (fun _ => rfl) rfl rfl gl_good (fun h0 => trivial) BigR.up BigR.down (fun g hg _ => ?_) hg trivial
  obtain ⟨V, hV⟩ : ∃ V, (if z < 0 then -z else z) = V := ⟨_, rfl⟩
  have hV0 : 0 ≤ V ∧ V ≤ 9223372036854775808 := by rw [← hV]; split <;> omega
  obtain ⟨s, hs⟩ : ∃ s, decide (z < 0) = s := ⟨_, rfl⟩
  have q1 : ¬ g.length + 1 = g.length := by omega
  have key : Wp (xbody (W CP) M76 [.int .i64 z] g) fun r => BigR s V 4 r.2.1 r.1 ∧ Keeps g r.2.1 none ∧ r.2.2 = [] := by
    rcases Classical.propComplete (z < 0) with c5 | c5
    · have hz : z < 0 := of_eq_true c5
      rw [if_pos hz] at hV
      have hs1 : s = true := by rw [← hs]; exact decide_eq_true hz
      have u1 : IntKind.u64.wrap z = z + 18446744073709551616 := by rw [wrapu64]; omega
      have u2 : IntKind.u64.wrap (0 - (z + 18446744073709551616)) = V := by rw [wrapu64]; omega
      rw [hs1]
      simp (maxDischargeDepth := 9) -implicitDefEqProofs only [push_cast, simprocAttr, M76, c5, u1, u2, q1, decide_true]
      refine wp_kRes (wp_kSeq (wp_kBlock ?_))
      refine wp_loop (fun k x h' ws => ∃ (i : Nat) (n : Int) (o : AV) (O : List Int), k = 5 - i ∧ i ≤ 4 ∧ 0 ≤ n ∧ val O + n * 65536 ^ i = V ∧ O.length = i ∧ Dig O ∧ (0 < i → 65536 ^ (i - 1) ≤ V) ∧ x = [(2, .ptr g.length 0), (3, .int .u64 n), (4, .ptr (g.length + 1) 0)] ∧ h'[g.length]? = some ⟨.tip false, .vals [.bool false, .nils]⟩ ∧ h'[g.length + 1]? = some ⟨.tip false, .vals [.bool true, o]⟩ ∧ T4 h' o O (g.length + 2) ∧ Keeps g h' none ∧ g.length + 2 ≤ h'.length ∧ ws = []) 5 ?_ ?_
      · refine ⟨0, V, .nils, [], rfl, by omega, hV0.1, by simp [val], rfl, Dig.nil, by omega, ?_, end_get4 _ _ _, ?_, Or.inl ⟨rfl, rfl⟩, Keeps.app _ _ _ rfl, by simp, rfl⟩
        · simp (maxDischargeDepth := 9) -implicitDefEqProofs only [push_cast, simprocAttr]; try rfl
        · rw [List.getElem?_append_right (by omega)]; simp
      · rintro k xx h' ws ⟨i, n, o, O, rfl, hi, n0, hv, lO, dO, hlow, rfl, b0, b1, t, kp, hl2, rfl⟩
        have l0 := (List.getElem?_eq_some_iff.1 b0).1
        have l1 := (List.getElem?_eq_some_iff.1 b1).1
        have uo := t.uv dO
        have no := uo.na
        have co := uo.cell
        have hP := pow_pos' i
        have bO := val_bound dO
        have hn : n * 1 ≤ n * 65536 ^ i := Int.mul_le_mul_of_nonneg_left (by omega) n0
        rw [Int.mul_one] at hn
        by_cases h0 : 0 < n
        · have hlow2 : 65536 ^ i ≤ V := by
            have : 1 * (65536 : Int) ^ i ≤ n * 65536 ^ i := Int.mul_le_mul_of_nonneg_right (by omega) (by omega)
            omega
          have hi3 : i < 4 := by
            rcases Nat.lt_or_ge i 4 with h | h
            · exact h
            · have := pow_le h
              have e4 : (65536 : Int) ^ 4 = 18446744073709551616 := by decide
              omega
          obtain ⟨r, hr⟩ : ∃ r, n % 65536 = r := ⟨_, rfl⟩
          obtain ⟨q, hq⟩ : ∃ q, n / 65536 = q := ⟨_, rfl⟩
          have m1 : Int.tmod n 65536 = r := by rw [Int.tmod_eq_emod_of_nonneg n0]; exact hr
          have m2 : Int.tdiv n 65536 = q := by rw [Int.tdiv_eq_ediv_of_nonneg n0]; exact hq
          have w1 : IntKind.u64.wrap r = r := wr_u64 _ (by omega) (by omega)
          have w2 : IntKind.u32.wrap r = r := wr_u32 _ (by omega) (by omega)
          have w3 : IntKind.u64.wrap q = q := wr_u64 _ (by omega) (by omega)
          have hkb := keepsJ kp [⟨.tip false, .ints .u32 [r]⟩] rfl
          obtain ⟨o', H2, ws2, ea, t2, w5, k2⟩ := app4 (B := [r]) (m := 1) (t.keep (h' := h' ++ [⟨.tip false, .ints .u32 [r]⟩]) (fun q z e => by rw [List.getElem?_append_left (List.getElem?_eq_some_iff.1 e).1]; exact e)) rfl (by omega) (by simp; omega)
          have en := new4 (H := h') r
          have d2 : Dig (O ++ [r]) := dO.app (Dig.one (by omega) (by omega))
          have kk : Keeps g H2 none := keepsO hg hkb k2 (fun q e => by have := t.blk q e; omega)
          have u2 := t2.uv d2
          have no2 := u2.na
          have hwa : wadd g.length [] ws2 = [] := wadd_ge fun b hb => by have := w5 b hb; omega
          have hlo : ¬ h'.length < g.length := by omega
          have lower : ∀ (q : Nat) (z : ABlk), q < g.length + 2 → h'[q]? = some z → (∀ j, z.st ≠ .old j) → H2[q]? = some z := fun q z hq e hz => k2.1 q z (by rw [List.getElem?_append_left (List.getElem?_eq_some_iff.1 e).1]; exact e) (fun j _ => hz j) (fun e2 => by have := t.blk q e2; omega)
          have c0 := lower _ _ (by omega) b0 (by simp)
          have c1 := lower _ _ (by omega) b1 (by simp)
          have m0 := (List.getElem?_eq_some_iff.1 c0).1
          have m1' := (List.getElem?_eq_some_iff.1 c1).1
          have hv2 : val (O ++ [r]) + q * 65536 ^ (i + 1) = V := by
            rw [val_snoc, lO, Int.pow_succ, ← hv]
            have e : n = 65536 * q + r := by omega
            rw [e]; grind
          have hH2 : g.length + 2 ≤ (H2.set (g.length + 1) ⟨.tip false, .vals [.bool true, o']⟩).length := by rw [List.length_set]; have := k2.2.1; simp at this; omega
          have kfin : Keeps g (H2.set (g.length + 1) ⟨.tip false, .vals [.bool true, o']⟩) none := keepsS kk (by omega) rfl
          have tfin := t2.set (q := g.length + 1) (z := ⟨.tip false, .vals [.bool true, o']⟩) (by omega)
          have cfin : (H2.set (g.length + 1) ⟨.tip false, .vals [.bool true, o']⟩)[g.length]? = some ⟨.tip false, .vals [.bool false, .nils]⟩ := by rw [List.getElem?_set_ne (by omega)]; exact c0
          have cfin1 : (H2.set (g.length + 1) ⟨.tip false, .vals [.bool true, o']⟩)[g.length + 1]? = some ⟨.tip false, .vals [.bool true, o']⟩ := List.getElem?_set_self m1'
          have q2 : ¬ g.length + 1 < g.length := by omega
          rcases u2.shape with rfl | ⟨_, _, _, rfl⟩ | ⟨_, _, _, rfl⟩
          all_goals
            simp (maxDischargeDepth := 9) -implicitDefEqProofs only [push_cast, simprocAttr, nadd1, nadd2, nadd3, nadd4, nadd5, nadd6, nadd7, nadd8, nadd9, nadd10, nadd11, nadd12, h0, b1, l1, no, co, m1, w1, w2, m2, w3, en, ea, hwa, no2, hlo, c1, m1', q1, q2]
            refine loop_next (5 - (i + 1)) (by omega) ⟨i + 1, q, _, O ++ [r], rfl, by omega, by omega, hv2, by simp [lO], d2, fun _ => by rw [Nat.add_sub_cancel]; exact hlow2, ?_, cfin, cfin1, tfin, kfin, hH2, rfl⟩
            simp (maxDischargeDepth := 9) -implicitDefEqProofs only [push_cast, simprocAttr]; try rfl
        · have hn0 : n = 0 := by omega
          rw [hn0] at hv
          have q2 : ¬ g.length < g.length := by omega
          have hres : BigR true V 4 (h'.set g.length ⟨.tip false, .vals [.bool true, o]⟩) (.agg [.bool true, o]) := ⟨o, O, rfl, (t.set (by omega)).uv dO, by omega, can_of dO fun hne => by
            rw [lO]
            have := hlow (by rcases Nat.eq_zero_or_pos i with e | e; · exact absurd (List.length_eq_zero_iff.1 (by omega)) hne
                             · exact e)
            omega, by omega⟩
          have kfin : Keeps g (h'.set g.length ⟨.tip false, .vals [.bool true, o]⟩) none := keepsS kp (by omega) rfl
          simp (maxDischargeDepth := 9) -implicitDefEqProofs only [push_cast, simprocAttr, nadd1, nadd2, nadd3, nadd4, nadd5, nadd6, nadd7, nadd8, nadd9, nadd10, nadd11, nadd12, h0, b0, b1, l0, l1, no, co, q1, q2]
          exact ⟨hres, kfin⟩
    · have hz : ¬ z < 0 := of_eq_false c5
      rw [if_neg hz] at hV
      have hs1 : s = false := by rw [← hs]; exact decide_eq_false hz
      have u1 : IntKind.u64.wrap z = V := by rw [wrapu64]; omega
      rw [hs1]
      simp (maxDischargeDepth := 9) -implicitDefEqProofs only [push_cast, simprocAttr, M76, c5, u1, q1, decide_false]
      refine wp_kRes (wp_kSeq (wp_kBlock ?_))
      refine wp_loop (fun k x h' ws => ∃ (i : Nat) (n : Int) (o : AV) (O : List Int), k = 5 - i ∧ i ≤ 4 ∧ 0 ≤ n ∧ val O + n * 65536 ^ i = V ∧ O.length = i ∧ Dig O ∧ (0 < i → 65536 ^ (i - 1) ≤ V) ∧ x = [(2, .ptr g.length 0), (3, .int .u64 n), (4, .ptr (g.length + 1) 0)] ∧ h'[g.length]? = some ⟨.tip false, .vals [.bool false, .nils]⟩ ∧ h'[g.length + 1]? = some ⟨.tip false, .vals [.bool false, o]⟩ ∧ T4 h' o O (g.length + 2) ∧ Keeps g h' none ∧ g.length + 2 ≤ h'.length ∧ ws = []) 5 ?_ ?_
      · refine ⟨0, V, .nils, [], rfl, by omega, hV0.1, by simp [val], rfl, Dig.nil, by omega, ?_, end_get4 _ _ _, ?_, Or.inl ⟨rfl, rfl⟩, Keeps.app _ _ _ rfl, by simp, rfl⟩
        · simp (maxDischargeDepth := 9) -implicitDefEqProofs only [push_cast, simprocAttr]; try rfl
        · rw [List.getElem?_append_right (by omega)]; simp
      · rintro k xx h' ws ⟨i, n, o, O, rfl, hi, n0, hv, lO, dO, hlow, rfl, b0, b1, t, kp, hl2, rfl⟩
        have l0 := (List.getElem?_eq_some_iff.1 b0).1
        have l1 := (List.getElem?_eq_some_iff.1 b1).1
        have uo := t.uv dO
        have no := uo.na
        have co := uo.cell
        have hP := pow_pos' i
        have bO := val_bound dO
        have hn : n * 1 ≤ n * 65536 ^ i := Int.mul_le_mul_of_nonneg_left (by omega) n0
        rw [Int.mul_one] at hn
        by_cases h0 : 0 < n
        · have hlow2 : 65536 ^ i ≤ V := by
            have : 1 * (65536 : Int) ^ i ≤ n * 65536 ^ i := Int.mul_le_mul_of_nonneg_right (by omega) (by omega)
            omega
          have hi3 : i < 4 := by
            rcases Nat.lt_or_ge i 4 with h | h
            · exact h
            · have := pow_le h
              have e4 : (65536 : Int) ^ 4 = 18446744073709551616 := by decide
              omega
          obtain ⟨r, hr⟩ : ∃ r, n % 65536 = r := ⟨_, rfl⟩
          obtain ⟨q, hq⟩ : ∃ q, n / 65536 = q := ⟨_, rfl⟩
          have m1 : Int.tmod n 65536 = r := by rw [Int.tmod_eq_emod_of_nonneg n0]; exact hr
          have m2 : Int.tdiv n 65536 = q := by rw [Int.tdiv_eq_ediv_of_nonneg n0]; exact hq
          have w1 : IntKind.u64.wrap r = r := wr_u64 _ (by omega) (by omega)
          have w2 : IntKind.u32.wrap r = r := wr_u32 _ (by omega) (by omega)
          have w3 : IntKind.u64.wrap q = q := wr_u64 _ (by omega) (by omega)
          have hkb := keepsJ kp [⟨.tip false, .ints .u32 [r]⟩] rfl
          obtain ⟨o', H2, ws2, ea, t2, w5, k2⟩ := app4 (B := [r]) (m := 1) (t.keep (h' := h' ++ [⟨.tip false, .ints .u32 [r]⟩]) (fun q z e => by rw [List.getElem?_append_left (List.getElem?_eq_some_iff.1 e).1]; exact e)) rfl (by omega) (by simp; omega)
          have en := new4 (H := h') r
          have d2 : Dig (O ++ [r]) := dO.app (Dig.one (by omega) (by omega))
          have kk : Keeps g H2 none := keepsO hg hkb k2 (fun q e => by have := t.blk q e; omega)
          have u2 := t2.uv d2
          have no2 := u2.na
          have hwa : wadd g.length [] ws2 = [] := wadd_ge fun b hb => by have := w5 b hb; omega
          have hlo : ¬ h'.length < g.length := by omega
          have lower : ∀ (q : Nat) (z : ABlk), q < g.length + 2 → h'[q]? = some z → (∀ j, z.st ≠ .old j) → H2[q]? = some z := fun q z hq e hz => k2.1 q z (by rw [List.getElem?_append_left (List.getElem?_eq_some_iff.1 e).1]; exact e) (fun j _ => hz j) (fun e2 => by have := t.blk q e2; omega)
          have c0 := lower _ _ (by omega) b0 (by simp)
          have c1 := lower _ _ (by omega) b1 (by simp)
          have m0 := (List.getElem?_eq_some_iff.1 c0).1
          have m1' := (List.getElem?_eq_some_iff.1 c1).1
          have hv2 : val (O ++ [r]) + q * 65536 ^ (i + 1) = V := by
            rw [val_snoc, lO, Int.pow_succ, ← hv]
            have e : n = 65536 * q + r := by omega
            rw [e]; grind
          have hH2 : g.length + 2 ≤ (H2.set (g.length + 1) ⟨.tip false, .vals [.bool false, o']⟩).length := by rw [List.length_set]; have := k2.2.1; simp at this; omega
          have kfin : Keeps g (H2.set (g.length + 1) ⟨.tip false, .vals [.bool false, o']⟩) none := keepsS kk (by omega) rfl
          have tfin := t2.set (q := g.length + 1) (z := ⟨.tip false, .vals [.bool false, o']⟩) (by omega)
          have cfin : (H2.set (g.length + 1) ⟨.tip false, .vals [.bool false, o']⟩)[g.length]? = some ⟨.tip false, .vals [.bool false, .nils]⟩ := by rw [List.getElem?_set_ne (by omega)]; exact c0
          have cfin1 : (H2.set (g.length + 1) ⟨.tip false, .vals [.bool false, o']⟩)[g.length + 1]? = some ⟨.tip false, .vals [.bool false, o']⟩ := List.getElem?_set_self m1'
          have q2 : ¬ g.length + 1 < g.length := by omega
          rcases u2.shape with rfl | ⟨_, _, _, rfl⟩ | ⟨_, _, _, rfl⟩
          all_goals
            simp (maxDischargeDepth := 9) -implicitDefEqProofs only [push_cast, simprocAttr, nadd1, nadd2, nadd3, nadd4, nadd5, nadd6, nadd7, nadd8, nadd9, nadd10, nadd11, nadd12, h0, b1, l1, no, co, m1, w1, w2, m2, w3, en, ea, hwa, no2, hlo, c1, m1', q1, q2]
            refine loop_next (5 - (i + 1)) (by omega) ⟨i + 1, q, _, O ++ [r], rfl, by omega, by omega, hv2, by simp [lO], d2, fun _ => by rw [Nat.add_sub_cancel]; exact hlow2, ?_, cfin, cfin1, tfin, kfin, hH2, rfl⟩
            simp (maxDischargeDepth := 9) -implicitDefEqProofs only [push_cast, simprocAttr]; try rfl
        · have hn0 : n = 0 := by omega
          rw [hn0] at hv
          have q2 : ¬ g.length < g.length := by omega
          have hres : BigR false V 4 (h'.set g.length ⟨.tip false, .vals [.bool false, o]⟩) (.agg [.bool false, o]) := ⟨o, O, rfl, (t.set (by omega)).uv dO, by omega, can_of dO fun hne => by
            rw [lO]
            have := hlow (by rcases Nat.eq_zero_or_pos i with e | e; · exact absurd (List.length_eq_zero_iff.1 (by omega)) hne
                             · exact e)
            omega, by omega⟩
          have kfin : Keeps g (h'.set g.length ⟨.tip false, .vals [.bool false, o]⟩) none := keepsS kp (by omega) rfl
          simp (maxDischargeDepth := 9) -implicitDefEqProofs only [push_cast, simprocAttr, nadd1, nadd2, nadd3, nadd4, nadd5, nadd6, nadd7, nadd8, nadd9, nadd10, nadd11, nadd12, h0, b0, b1, l0, l1, no, co, q1, q2]
          exact ⟨hres, kfin⟩
  rw [hs, hV]
  exact key
end
end Go.Proofs.YtcpiohklljppaaaW.AI.D
namespace Go.Proofs.YtcpiohklljppaaaW.AI.D
open Go Go.Proofs.YtcpiohklljppaaaW.AI
set_option maxRecDepth 100000
set_option linter.unusedSimpArgs false
set_option linter.unusedVariables false
set_option linter.unusedSectionVars false
/-- A number's size; a sign and a size as a number. -/
def aN (S : Int) : Int := if S < 0 then -S else S
def sgn (s : Bool) (V : Int) : Int := if s = true then -V else V
/-- A whole number. -/
def BigS (S : Int) (n : Nat) (H : AHeap) (r : AV) : Prop := BigR (decide (S < 0)) (aN S) n H r
def intR (s : Bool) (V : Int) : Bool := decide (V ≤ if (s && decide (V ≠ 0)) = true then 9223372036854775808 else 9223372036854775807)
def intZ (s : Bool) (V : Int) : Int := if V < 18446744073709551616 then (if (s && decide (V ≠ 0)) = true then IntKind.i64.wrap (IntKind.u64.wrap (0 - V)) else IntKind.i64.wrap V) else 0
theorem intZ_ok {s : Bool} {V : Int} (h0 : 0 ≤ V) (h : intR s V = true) : intZ s V = sgn s V := by
  unfold intR at h
  have h := of_decide_eq_true h
  unfold intZ sgn
  cases s with
  | false =>
    simp only [Bool.false_and, Bool.false_eq_true, if_false] at h ⊢
    rw [if_pos (by omega), wrapi64]
    split <;> omega
  | true =>
    simp only [Bool.true_and, decide_eq_true_eq, if_true] at h ⊢
    by_cases hV : V = 0
    · subst hV; rfl
    · rw [if_pos hV] at h ⊢
      rw [if_pos (by omega), wrapu64, wrapi64]
      split <;> omega
section
variable {h : AHeap} {a b : AV} {LA LB : List Int}
set_option maxHeartbeats 8000000 in
theorem Int_c {s : Bool} (hg : Good h) (ua : UV h a LA) (hla : LA.length < 1000) : W CP 77 [.agg [.bool s, a]] h = some (.tup [.int .i64 (intZ s (val LA)), .bool (intR s (val LA))], h, []) := by
  refine W_bothB (m := M77) (fun g => UV g a LA) (fun _ => rfl) rfl rfl rfl gl_good (fun h0 => ?_) (fun g hg ua => ?_) hg ua
  · simp only [AV.lts, AV.lt, Bool.and_eq_true] at h0
    exact ua.gl h0.1.2.1
  have na := ua.na
  have ca := ua.cell
  obtain ⟨r, js, eT, ⟨v, L, rfl, uv, hV, cL, _⟩, hG1, _⟩ := trim_c (s := s) (h := g ++ [⟨.tip false, .vals [.bool s, a]⟩]) (good_app hg rfl) (ua.app _) hla
  have b0 : ((g ++ [(⟨.tip false, .vals [.bool s, a]⟩ : ABlk)]) ++ js)[g.length]? = some ⟨.tip false, .vals [.bool s, a]⟩ := by rw [List.append_assoc]; exact end_get4 _ _ _
  have k1 : Keeps g ((g ++ [(⟨.tip false, .vals [.bool s, a]⟩ : ABlk)]) ++ js) none := keepsT (Keeps.app _ _ _ rfl) (keepsG hG1)
  obtain ⟨H1, hH1⟩ : ∃ H1, (g ++ [(⟨.tip false, .vals [.bool s, a]⟩ : ABlk)]) ++ js = H1 := ⟨_, rfl⟩
  rw [hH1] at eT uv hG1 b0 k1
  have l0 := (List.getElem?_eq_some_iff.1 b0).1
  obtain ⟨s', hs'⟩ : ∃ s', (s && decide (val LA ≠ 0)) = s' := ⟨_, rfl⟩
  obtain ⟨V, hVV⟩ : ∃ V, val LA = V := ⟨_, rfl⟩
  have hR : intR s V = decide (V ≤ if s' = true then 9223372036854775808 else 9223372036854775807) := by unfold intR; rw [← hs', ← hVV]
  have hZ : intZ s V = if V < 18446744073709551616 then (if s' = true then IntKind.i64.wrap (IntKind.u64.wrap (0 - V)) else IntKind.i64.wrap V) else 0 := by unfold intZ; rw [← hs', ← hVV]
  rw [hs'] at eT
  rw [hVV] at hV ⊢
  clear hs'
  have hk2 : Keeps g (H1.set g.length ⟨.tip false, .vals [.bool s', v]⟩) none := keepsS k1 (Nat.le_refl _) rfl
  have b2 : (H1.set g.length ⟨.tip false, .vals [.bool s', v]⟩)[g.length]? = some ⟨.tip false, .vals [.bool s', v]⟩ := List.getElem?_set_self l0
  have u2 : UV (H1.set g.length ⟨.tip false, .vals [.bool s', v]⟩) v L := by
    obtain ⟨hD, k | ⟨b', c, st, l, mn, e, r⟩⟩ := uv
    · exact ⟨hD, Or.inl k⟩
    · refine ⟨hD, Or.inr ⟨b', c, st, l, mn, ?_, r⟩⟩
      rw [List.getElem?_set_ne (by rintro rfl; rw [b0] at e; cases e)]
      exact e
  obtain ⟨js2, hj2⟩ := hk2.behind
  have nv := uv.na
  have cv := uv.cell
  have lv := uv.len
  have dL := uv.1
  obtain ⟨m, hm⟩ : ∃ m, L.length = m := ⟨_, rfl⟩
  rw [hm] at lv
  have bV := val_bound dL
  rw [hV] at bV
  obtain ⟨H2, hH2⟩ : ∃ H2, H1.set g.length ⟨.tip false, .vals [.bool s', v]⟩ = H2 := ⟨_, rfl⟩
  rw [hH2] at b2 u2 hj2
  have l2 := (List.getElem?_eq_some_iff.1 b2).1
  have e4 : (65536 : Int) ^ 4 = 18446744073709551616 := by decide
  by_cases h4 : 4 < m
  · have h4' : (4 : Int) < (m : Int) := by omega
    have hlow := val_low dL cL (by rintro rfl; simp at hm; omega)
    rw [hV, hm] at hlow
    have := pow_le (show 4 ≤ m - 1 by omega)
    have hZ0 : intZ s V = 0 := by rw [hZ, if_neg (by omega)]
    have hR0 : intR s V = false := by rw [hR]; refine decide_eq_false ?_; split <;> omega
    rw [hZ0, hR0]
    simp (maxDischargeDepth := 9) -implicitDefEqProofs only [push_cast, simprocAttr, M77, na, ca, eT, nv, cv, b0, l0, hH2, b2, l2, lv, h4']
    exact ⟨rfl, ⟨js2, hj2⟩, rfl⟩
  · have h4' : ¬ (4 : Int) < (m : Int) := by omega
    have hV4 : V < 18446744073709551616 := by
      have := pow_le (show L.length ≤ 4 by omega)
      omega
    have w1 : IntKind.i64.wrap ((m : Int) - 1) = (m : Int) - 1 := wr_i64 _ (by omega) (by omega)
    rw [hZ, if_pos hV4, hR]
    cases hs : s'
    all_goals
      rw [hs] at eT b2 hH2
      simp (maxDischargeDepth := 9) -implicitDefEqProofs only [push_cast, simprocAttr, M77, na, ca, eT, nv, cv, b0, l0, hH2, b2, l2, lv, h4', w1]
      refine wp_kRes (wp_kSeq (wp_kBlock ?_))
      refine wp_loop (fun k x h' ws => ∃ j : Nat, k = j + 1 ∧ j ≤ m ∧ x = [(1, .ptr g.length 0), (4, .int .u64 (val (L.drop j))), (5, .int .i64 ((j : Int) - 1))] ∧ h' = H2 ∧ ws = []) (m + 1) ?_ ?_
      · refine ⟨m, rfl, by omega, ?_, rfl, rfl⟩
        rw [List.drop_of_length_le (by omega)]
        simp (maxDischargeDepth := 9) -implicitDefEqProofs only [push_cast, simprocAttr]; try rfl
      · rintro k xx h' ws ⟨j, rfl, hj, rfl, rfl, rfl⟩
        by_cases h0 : 0 < j
        · obtain ⟨i, rfl⟩ : ∃ i, j = i + 1 := ⟨j - 1, by omega⟩
          have hji : ((i + 1 : Nat) : Int) - 1 = (i : Int) := by omega
          have hge : (0 : Int) ≤ (i : Int) := by omega
          have w2 : IntKind.i64.wrap ((i : Int) - 1) = (i : Int) - 1 := wr_i64 _ (by omega) (by omega)
          obtain ⟨p, e1, e2, _⟩ := u2.at (datL_get (show i < L.length by omega))
          have vc := val_cons_drop (show i < L.length by omega)
          have hd := datL_in dL i
          have b1 := val_bound (dL.drop (i + 1))
          have b2' := val_bound (dL.drop i)
          rw [List.length_drop] at b1 b2'
          have p1 := pow_le (show L.length - (i + 1) ≤ 4 by omega)
          have p2 := pow_le (show L.length - i ≤ 4 by omega)
          obtain ⟨d, hd1⟩ : ∃ d, datL L i = d := ⟨_, rfl⟩
          rw [hd1] at e2 vc hd
          obtain ⟨z, hz⟩ : ∃ z, val (L.drop (i + 1)) = z := ⟨_, rfl⟩
          rw [hz] at vc b1 ⊢
          have w3 : IntKind.u64.wrap (z * 65536) = z * 65536 := wr_u64 _ (by omega) (by omega)
          have w4 : IntKind.u64.wrap (z * 65536 + d) = z * 65536 + d := wr_u64 _ (by omega) (by omega)
          have w5 : IntKind.u64.wrap d = d := wr_u64 _ (by omega) (by omega)
          rw [hji]
          simp (maxDischargeDepth := 9) -implicitDefEqProofs only [push_cast, simprocAttr, nadd1, nadd2, nadd3, nadd4, nadd5, nadd6, nadd7, nadd8, nadd9, nadd10, nadd11, nadd12, hge, b2, l2, nv, ↓uia_eq, e1, ↓uld_eq 25, e2, w2, w3, w4, w5]
          refine loop_next (i + 1) (by omega) ⟨i, rfl, by omega, ?_, rfl, rfl⟩
          rw [vc, show d + 65536 * z = z * 65536 + d by omega]
          simp (maxDischargeDepth := 9) -implicitDefEqProofs only [push_cast, simprocAttr]; try simp
        · obtain rfl : j = 0 := by omega
          have hnl : ¬ (0 : Int) ≤ ((0 : Nat) : Int) - 1 := by decide
          rw [List.drop_zero, hV]
          simp (maxDischargeDepth := 9) -implicitDefEqProofs only [push_cast, simprocAttr, nadd1, nadd2, nadd3, nadd4, nadd5, nadd6, nadd7, nadd8, nadd9, nadd10, nadd11, nadd12, hnl, b2, l2]
          exact ⟨rfl, ⟨js2, hj2⟩, rfl⟩
/-- What is told. -/
def toldV (s : Bool) (V : Int) : AV := if intR s V = true then .tup [.int .i64 (sgn s V), .int .i64 0] else .tup [.int .i64 0, .int .i64 20]
theorem told_c {s : Bool} (hg : Good h) (ua : UV h a LA) (hla : LA.length < 1000) : W CP 85 [.agg [.bool s, a]] h = some (toldV s (val LA), h, []) := by
  refine W_bothB (m := M85) (fun g => UV g a LA) (fun _ => rfl) rfl rfl (by unfold toldV; split <;> rfl) gl_good (fun h0 => ?_) (fun g hg ua => ?_) hg ua
  · simp only [AV.lts, AV.lt, Bool.and_eq_true] at h0
    exact ua.gl h0.1.2.1
  have na := ua.na
  have ca := ua.cell
  have eI := Int_c (s := s) (h := g ++ [⟨.tip false, .vals [.bool s, a]⟩]) (good_app hg rfl) (ua.app _) hla
  have hV0 := (val_bound ua.1).1
  unfold toldV
  cases hR : intR s (val LA) with
  | false =>
    rw [hR] at eI
    simp (maxDischargeDepth := 9) -implicitDefEqProofs only [push_cast, simprocAttr, M85, na, ca, eI]
    exact ⟨rfl, ⟨_, rfl⟩, rfl⟩
  | true =>
    rw [hR, intZ_ok hV0 hR] at eI
    simp (maxDischargeDepth := 9) -implicitDefEqProofs only [push_cast, simprocAttr, M85, na, ca, eI]
    exact ⟨rfl, ⟨_, rfl⟩, rfl⟩
end
end Go.Proofs.YtcpiohklljppaaaW.AI.D
namespace Go.Proofs.YtcpiohklljppaaaW.AI.D
open Go Go.Proofs.YtcpiohklljppaaaW.AI
set_option maxRecDepth 100000
set_option linter.unusedSimpArgs false
set_option linter.unusedVariables false
set_option linter.unusedSectionVars false
theorem aN_pos (S : Int) : 0 ≤ aN S := by unfold aN; split <;> omega
/-- A sign and a size that are a number's. -/
theorem sgn_big {s : Bool} {V S : Int} (h0 : 0 ≤ V) (h : sgn s V = S) : (s && decide (V ≠ 0)) = decide (S < 0) ∧ V = aN S := by
  unfold sgn at h
  unfold aN
  cases s with
  | false =>
    simp only [Bool.false_eq_true, if_false] at h
    subst h
    refine ⟨by simp; omega, by split <;> omega⟩
  | true =>
    simp only [if_true] at h
    subst h
    refine ⟨?_, by split <;> omega⟩
    rw [Bool.true_and]
    by_cases c : V = 0
    · simp [c]
    · rw [decide_eq_true c, decide_eq_true (by omega)]
section
variable {h : AHeap} {a b : AV} {LA LB : List Int}
/-- What trim makes of a sign and a row is a number. -/
theorem trim_big {s : Bool} {S : Int} (hg : Good h) (ua : UV h a LA) (hla : LA.length < 1000) (hS : sgn s (val LA) = S) :
    ∃ r js, W CP 88 [.agg [.bool s, a]] h = some (r, h ++ js, []) ∧ BigS S LA.length (h ++ js) r ∧ Good (h ++ js) := by
  obtain ⟨r, js, e, b, hG, _⟩ := trim_c (s := s) hg ua hla
  obtain ⟨e1, e2⟩ := sgn_big (val_bound ua.1).1 hS
  rw [e1, e2] at b
  exact ⟨r, js, e, b, hG⟩
theorem BigS.len {S : Int} {n m : Nat} {H : AHeap} {r : AV} (b : BigS S n H r) (h : n ≤ m) : BigS S m H r := by
  obtain ⟨v, L, e, u, q1, q2, q3⟩ := b
  exact ⟨v, L, e, u, q1, q2, by omega⟩
/-- A number's row is as long as the number asks. -/
theorem BigS.fit {S : Int} {n m : Nat} {H : AHeap} {r : AV} (b : BigS S n H r) (h : aN S < 65536 ^ m) : BigS S m H r := by
  obtain ⟨v, L, e, u, q1, q2, q3⟩ := b
  refine ⟨v, L, e, u, q1, q2, ?_⟩
  rcases Nat.lt_or_ge m L.length with c | c
  · have := val_low u.1 q2 (by rintro rfl; simp at c)
    have h2 := pow_le (show m ≤ L.length - 1 by omega)
    omega
  · exact c
set_option maxHeartbeats 8000000 in
theorem Plus_c {SA SB : Int} {nA nB : Nat} {rA rB : AV} (hg : Good h) (ba : BigS SA nA h rA) (bb : BigS SB nB h rB) (hA : nA < 900) (hB : nB < 900) :
    ∃ r js, W CP 75 [rA, rB] h = some (r, h ++ js, []) ∧ BigS (SA + SB) (max nA nB + 1) (h ++ js) r ∧ Good (h ++ js) ∧ (r.lt h.length = true → js = []) := by
  obtain ⟨a, LA, rfl, ua, vA, cA, lA⟩ := ba
  obtain ⟨b, LB, rfl, ub, vB, cB, lB⟩ := bb
  refine W_any (m := M75) (fun g => UV g a LA ∧ UV g b LB) (BigS (SA + SB) (max nA nB + 1)) (fun _ => rfl) rfl rfl gl_good (fun h0 => ?_) BigR.up BigR.down (fun g hg hi => ?_) hg ⟨ua, ub⟩
  · simp only [AV.lts, AV.lt, Bool.and_eq_true] at h0
    exact ⟨ua.gl h0.1.2.1, ub.gl h0.2.1.2.1⟩
  obtain ⟨ua, ub⟩ := hi
  have na := ua.na
  have ca := ua.cell
  have nb := ub.na
  have cb := ub.cell
  obtain ⟨X, hX⟩ : ∃ X : AHeap, [⟨.tip false, .vals [.bool (decide (SA < 0)), a]⟩, ⟨.tip false, .vals [.bool (decide (SB < 0)), b]⟩, ⟨.tip false, .vals [.bool false, .nils]⟩] = X := ⟨_, rfl⟩
  have hno : X.all notOld = true := by rw [← hX]; rfl
  have hG1 : Good (g ++ X) := good_app hg hno
  have ua1 := ua.app X
  have ub1 := ub.app X
  have b0 : (g ++ X)[g.length]? = some ⟨.tip false, .vals [.bool (decide (SA < 0)), a]⟩ := by rw [← hX]; exact end_get4 _ _ _
  have b1 : (g ++ X)[g.length + 1]? = some ⟨.tip false, .vals [.bool (decide (SB < 0)), b]⟩ := by rw [← hX, List.getElem?_append_right (by omega)]; simp
  have b2 : (g ++ X)[g.length + 2]? = some ⟨.tip false, .vals [.bool false, .nils]⟩ := by rw [← hX, List.getElem?_append_right (by omega)]; simp
  have kX : Keeps g (g ++ X) none := Keeps.app _ _ _ hno
  have eL := Less_c hG1 ua1 ub1 cA cB (by omega) (by omega)
  have vA0 := aN_pos SA
  have vB0 := aN_pos SB
  have setB : ∀ {H : AHeap} {v : AV} {L : List Int} {z : ABlk}, H[g.length + 2]? = some ⟨.tip false, .vals [.bool false, .nils]⟩ → UV H v L → UV (H.set (g.length + 2) z) v L := by
    intro H v L z hz u
    obtain ⟨hD, k | ⟨b', c, st, l, mn, e, r⟩⟩ := u
    · exact ⟨hD, Or.inl k⟩
    · refine ⟨hD, Or.inr ⟨b', c, st, l, mn, ?_, r⟩⟩
      rw [List.getElem?_set_ne (by rintro rfl; rw [hz] at e; cases e)]
      exact e
  have eX : g ++ X = g ++ [⟨.tip false, .vals [.bool (decide (SA < 0)), a]⟩, ⟨.tip false, .vals [.bool (decide (SB < 0)), b]⟩, ⟨.tip false, .vals [.bool false, .nils]⟩] := by rw [hX]
  have l0 := (List.getElem?_eq_some_iff.1 b0).1
  have l1 := (List.getElem?_eq_some_iff.1 b1).1
  have l2 := (List.getElem?_eq_some_iff.1 b2).1
  obtain ⟨Y, hY⟩ : ∃ Y, g ++ X = Y := ⟨_, rfl⟩
  have eY : g ++ [ABlk.new (.vals [.bool (decide (SA < 0)), a]), ABlk.new (.vals [.bool (decide (SB < 0)), b]), ABlk.new (.vals [.bool false, .nils])] = Y := by rw [← hY, eX]
  rw [hY] at hG1 ua1 ub1 b0 b1 b2 kX eL l0 l1 l2
  have sA : SA = sgn (decide (SA < 0)) (val LA) := by rw [vA]; unfold sgn aN; by_cases c : SA < 0 <;> simp [c]
  have sB : SB = sgn (decide (SB < 0)) (val LB) := by rw [vB]; unfold sgn aN; by_cases c : SB < 0 <;> simp [c]
  obtain ⟨pA, hpA⟩ : ∃ p, decide (SA < 0) = p := ⟨_, rfl⟩
  obtain ⟨pB, hpB⟩ : ∃ p, decide (SB < 0) = p := ⟨_, rfl⟩
  rw [hpA] at b0 sA eY ⊢
  rw [hpB] at b1 sB eY ⊢
  clear hpA hpB
  have wA := (val_bound ua1.1).1
  have wB := (val_bound ub1.1).1
  have lo1 : ¬ Y.length ≤ g.length := by omega
  have lo2 : ¬ Y.length ≤ g.length + 1 := by omega
  by_cases hp : pA = pB
  · subst hp
    obtain ⟨w, js1, eP, ⟨L, uL, vL, lL, _⟩, hG2, _⟩ := plus_c hG1 ua1 ub1 (by omega) (by omega)
    have k21 : Keeps Y (Y ++ js1) none := keepsG hG2
    obtain ⟨Z1, hZ1⟩ : ∃ Z1, Y ++ js1 = Z1 := ⟨_, rfl⟩
    rw [hZ1] at eP uL hG2 k21
    obtain ⟨r, js2, eT, ⟨v, M, rfl, uM, vM, cM, lM⟩, hG3⟩ := trim_big (s := pA) (S := SA + SB) hG2 uL (by omega) (by
      rw [sA, sB, vL]; unfold sgn; split <;> omega)
    have k22 : Keeps Z1 (Z1 ++ js2) none := keepsG hG3
    obtain ⟨Z2, hZ2⟩ : ∃ Z2, Z1 ++ js2 = Z2 := ⟨_, rfl⟩
    rw [hZ2] at eT uM hG3 k22
    have f1 := keepsN k22 _ _ (keepsN k21 _ _ b2)
    have f2 : Keeps g (Z2.set (g.length + 2) ⟨.tip false, .vals [.bool (decide (SA + SB < 0)), v]⟩) none := keepsS (keepsT kX (keepsT k21 k22)) (by omega) rfl
    have nw := uL.na
    have cw := uL.cell
    have nv := uM.na
    have cv := uM.cell
    have f3 := (List.getElem?_eq_some_iff.1 f1).1
    have uF := setB (z := ⟨.tip false, .vals [.bool (decide (SA + SB < 0)), v]⟩) f1 uM
    cases pA <;> rcases uL.shape with rfl | ⟨_, _, _, rfl⟩ | ⟨_, _, _, rfl⟩
    all_goals
      simp (maxDischargeDepth := 9) -implicitDefEqProofs only [push_cast, simprocAttr, M75, nadd1, nadd2, nadd3, nadd4, nadd5, nadd6, nadd7, nadd8, nadd9, nadd10, nadd11, nadd12, na, ca, nb, cb, eY, b0, b1, l0, l1, eP, nw, cw, eT, nv, cv, f1, f3, lo1, lo2, decide_false, Bool.not_false, Bool.and_true]
      exact ⟨⟨v, M, rfl, uF, vM, cM, by omega⟩, f2⟩
  · have hne : (pA == pB) = false := by cases pA <;> cases pB <;> first | exact absurd rfl hp | rfl
    have hLB : val LB ≤ val LA → LB.length ≤ LA.length := fun h => by
      rcases Nat.lt_or_ge LA.length LB.length with c | c
      · have := val_long ub1.1 cB ua1.1 c; omega
      · exact c
    have hLA : val LA ≤ val LB → LA.length ≤ LB.length := fun h => by
      rcases Nat.lt_or_ge LB.length LA.length with c | c
      · have := val_long ua1.1 cA ub1.1 c; omega
      · exact c
    by_cases hlt : val LA < val LB
    · rw [decide_eq_true hlt] at eL
      obtain ⟨w, js1, eP, ⟨L, uL, vL, lL⟩, hG2, _⟩ := less_c hG1 ub1 ua1 (by omega) (hLA (by omega)) (by omega)
      have k21 : Keeps Y (Y ++ js1) none := keepsG hG2
      obtain ⟨Z1, hZ1⟩ : ∃ Z1, Y ++ js1 = Z1 := ⟨_, rfl⟩
      rw [hZ1] at eP uL hG2 k21
      obtain ⟨r, js2, eT, ⟨v, M, rfl, uM, vM, cM, lM⟩, hG3⟩ := trim_big (s := pB) (S := SA + SB) hG2 uL (by omega) (by
        rw [sA, sB, vL]; unfold sgn; cases pA <;> cases pB <;> first | exact absurd rfl hp | (simp only [if_true, Bool.false_eq_true, if_false]; omega))
      have k22 : Keeps Z1 (Z1 ++ js2) none := keepsG hG3
      obtain ⟨Z2, hZ2⟩ : ∃ Z2, Z1 ++ js2 = Z2 := ⟨_, rfl⟩
      rw [hZ2] at eT uM hG3 k22
      have f1 := keepsN k22 _ _ (keepsN k21 _ _ b2)
      have f2 : Keeps g (Z2.set (g.length + 2) ⟨.tip false, .vals [.bool (decide (SA + SB < 0)), v]⟩) none := keepsS (keepsT kX (keepsT k21 k22)) (by omega) rfl
      have nw := uL.na
      have cw := uL.cell
      have nv := uM.na
      have cv := uM.cell
      have f3 := (List.getElem?_eq_some_iff.1 f1).1
      have uF := setB (z := ⟨.tip false, .vals [.bool (decide (SA + SB < 0)), v]⟩) f1 uM
      cases pA <;> cases pB
      · exact absurd rfl hp
      rotate_left 2
      · exact absurd rfl hp
      all_goals
        rcases uL.shape with rfl | ⟨_, _, _, rfl⟩ | ⟨_, _, _, rfl⟩
      all_goals
        simp (maxDischargeDepth := 9) -implicitDefEqProofs only [push_cast, simprocAttr, M75, nadd1, nadd2, nadd3, nadd4, nadd5, nadd6, nadd7, nadd8, nadd9, nadd10, nadd11, nadd12, na, ca, nb, cb, eY, b0, b1, l0, l1, eL, eP, nw, cw, eT, nv, cv, f1, f3, lo1, lo2, decide_false, Bool.not_false, Bool.and_true]
        exact ⟨⟨v, M, rfl, uF, vM, cM, by omega⟩, f2⟩
    · rw [decide_eq_false hlt] at eL
      obtain ⟨w, js1, eP, ⟨L, uL, vL, lL⟩, hG2, _⟩ := less_c hG1 ua1 ub1 (by omega) (hLB (by omega)) (by omega)
      have k21 : Keeps Y (Y ++ js1) none := keepsG hG2
      obtain ⟨Z1, hZ1⟩ : ∃ Z1, Y ++ js1 = Z1 := ⟨_, rfl⟩
      rw [hZ1] at eP uL hG2 k21
      obtain ⟨r, js2, eT, ⟨v, M, rfl, uM, vM, cM, lM⟩, hG3⟩ := trim_big (s := pA) (S := SA + SB) hG2 uL (by omega) (by
        rw [sA, sB, vL]; unfold sgn; cases pA <;> cases pB <;> first | exact absurd rfl hp | (simp only [if_true, Bool.false_eq_true, if_false]; omega))
      have k22 : Keeps Z1 (Z1 ++ js2) none := keepsG hG3
      obtain ⟨Z2, hZ2⟩ : ∃ Z2, Z1 ++ js2 = Z2 := ⟨_, rfl⟩
      rw [hZ2] at eT uM hG3 k22
      have f1 := keepsN k22 _ _ (keepsN k21 _ _ b2)
      have f2 : Keeps g (Z2.set (g.length + 2) ⟨.tip false, .vals [.bool (decide (SA + SB < 0)), v]⟩) none := keepsS (keepsT kX (keepsT k21 k22)) (by omega) rfl
      have nw := uL.na
      have cw := uL.cell
      have nv := uM.na
      have cv := uM.cell
      have f3 := (List.getElem?_eq_some_iff.1 f1).1
      have uF := setB (z := ⟨.tip false, .vals [.bool (decide (SA + SB < 0)), v]⟩) f1 uM
      cases pA <;> cases pB
      · exact absurd rfl hp
      rotate_left 2
      · exact absurd rfl hp
      all_goals
        rcases uL.shape with rfl | ⟨_, _, _, rfl⟩ | ⟨_, _, _, rfl⟩
      all_goals
        simp (maxDischargeDepth := 9) -implicitDefEqProofs only [push_cast, simprocAttr, M75, nadd1, nadd2, nadd3, nadd4, nadd5, nadd6, nadd7, nadd8, nadd9, nadd10, nadd11, nadd12, na, ca, nb, cb, eY, b0, b1, l0, l1, eL, eP, nw, cw, eT, nv, cv, f1, f3, lo1, lo2, decide_false, Bool.not_false, Bool.and_true]
        exact ⟨⟨v, M, rfl, uF, vM, cM, by omega⟩, f2⟩
end
end Go.Proofs.YtcpiohklljppaaaW.AI.D
namespace Go.Proofs.YtcpiohklljppaaaW.AI.D
open Go Go.Proofs.YtcpiohklljppaaaW.AI
set_option maxRecDepth 100000
set_option linter.unusedSimpArgs false
set_option linter.unusedVariables false
set_option linter.unusedSectionVars false
theorem UV.setv {H : AHeap} {q : Nat} {A B : List AV} {v : AV} {L : List Int} (hz : H[q]? = some ⟨.tip false, .vals A⟩) (u : UV H v L) : UV (H.set q ⟨.tip false, .vals B⟩) v L := by
  obtain ⟨hD, k | ⟨b', c, st, l, mn, e, r⟩⟩ := u
  · exact ⟨hD, Or.inl k⟩
  · refine ⟨hD, Or.inr ⟨b', c, st, l, mn, ?_, r⟩⟩
    rw [List.getElem?_set_ne (by rintro rfl; rw [hz] at e; cases e)]
    exact e
section
variable {h : AHeap} {a b : AV} {LA LB : List Int}
set_option maxHeartbeats 32000000 in
theorem Times_c {SA SB : Int} {nA nB : Nat} {rA rB : AV} (hg : Good h) (ba : BigS SA nA h rA) (bb : BigS SB nB h rB) (hA : nA < 200) (hB : nB < 200) :
    ∃ r js, W CP 82 [rA, rB] h = some (r, h ++ js, []) ∧ BigS (SA * SB) (nA + nB) (h ++ js) r ∧ Good (h ++ js) ∧ (r.lt h.length = true → js = []) := by
  obtain ⟨a, LA, rfl, ua, vA, cA, lA⟩ := ba
  obtain ⟨b, LB, rfl, ub, vB, cB, lB⟩ := bb
  refine W_any (m := M82) (fun g => UV g a LA ∧ UV g b LB) (BigS (SA * SB) (nA + nB)) (fun _ => rfl) rfl rfl gl_good (fun h0 => ?_) BigR.up BigR.down (fun g hg hi => ?_) hg ⟨ua, ub⟩
  · simp only [AV.lts, AV.lt, Bool.and_eq_true] at h0
    exact ⟨ua.gl h0.1.2.1, ub.gl h0.2.1.2.1⟩
  obtain ⟨ua, ub⟩ := hi
  have na := ua.na
  have ca := ua.cell
  have nb := ub.na
  have cb := ub.cell
  have dA := ua.1
  have dB := ub.1
  have la := ua.len
  have lb := ub.len
  obtain ⟨m, hm⟩ : ∃ m, LA.length = m := ⟨_, rfl⟩
  obtain ⟨n, hn⟩ : ∃ n, LB.length = n := ⟨_, rfl⟩
  rw [hm] at la lA
  rw [hn] at lb lB
  obtain ⟨pA, hpA⟩ : ∃ p, decide (SA < 0) = p := ⟨_, rfl⟩
  obtain ⟨pB, hpB⟩ : ∃ p, decide (SB < 0) = p := ⟨_, rfl⟩
  have sA : SA = sgn pA (val LA) := by rw [vA, ← hpA]; unfold sgn aN; by_cases c : SA < 0 <;> simp [c]
  have sB : SB = sgn pB (val LB) := by rw [vB, ← hpB]; unfold sgn aN; by_cases c : SB < 0 <;> simp [c]
  rw [hpA, hpB]
  clear hpA hpB
  have wA := val_bound dA
  have wB := val_bound dB
  have q10 : ¬ g.length + 1 = g.length := by omega
  have q20 : ¬ g.length + 2 = g.length := by omega
  have q30 : ¬ g.length + 3 = g.length := by omega
  have q31 : ¬ g.length + 3 = g.length + 1 := by omega
  have q32 : ¬ g.length + 3 = g.length + 2 := by omega
  have q23 : ¬ g.length + 2 = g.length + 3 := by omega
  simp (maxDischargeDepth := 9) -implicitDefEqProofs only [push_cast, simprocAttr, M82, nadd1, nadd2, nadd3, nadd4, nadd5, nadd6, nadd7, nadd8, nadd9, nadd10, nadd11, nadd12, na, ca, nb, cb]
  refine wp_kRes (wp_kSeq (wp_kBlock ?_))
  refine wp_loop (fun k x h' ws => ∃ (i : Nat) (o : AV) (O : List Int), k = m - i ∧ i ≤ m ∧ x = [(2, .ptr g.length 0), (3, .ptr (g.length + 1) 0), (4, .ptr (g.length + 2) 0), (5, .ptr (g.length + 3) 0), (6, .int .i64 (i : Int))] ∧
      h'[g.length]? = some ⟨.tip false, .vals [.bool pA, a]⟩ ∧ h'[g.length + 1]? = some ⟨.tip false, .vals [.bool pB, b]⟩ ∧ h'[g.length + 2]? = some ⟨.tip false, .vals [.bool false, .nils]⟩ ∧ h'[g.length + 3]? = some ⟨.tip false, .vals [.bool false, o]⟩ ∧
      UV h' o O ∧ val O = val (LA.take i) * val LB ∧ O.length ≤ n + 2 + 2 * i ∧ Keeps g h' none ∧ ws = []) m ?_ ?_
  · refine ⟨0, .nils, [], by omega, by omega, ?_, end_get4 _ _ _, ?_, ?_, ?_, UV.nil _, by simp [val], by simp, Keeps.app _ _ _ rfl, rfl⟩
    · simp (maxDischargeDepth := 9) -implicitDefEqProofs only [push_cast, simprocAttr]; try rfl
    all_goals
      rw [List.getElem?_append_right (by omega)]; simp
  · rintro k xx h' ws ⟨i, o, O, rfl, hi, rfl, b0, b1, b2, b3, uo, hv, lO, kp, rfl⟩
    have l0 := (List.getElem?_eq_some_iff.1 b0).1
    have l1 := (List.getElem?_eq_some_iff.1 b1).1
    have l2 := (List.getElem?_eq_some_iff.1 b2).1
    have l3 := (List.getElem?_eq_some_iff.1 b3).1
    have hgh := kp.2.2 hg
    have uah := ua.keep (keepsN kp)
    have ubh := ub.keep (keepsN kp)
    have no := uo.na
    have co := uo.cell
    by_cases hlt : i < m
    · have hlt' : (i : Int) < (m : Int) := by omega
      have m1' : 4 * i ≤ 281474976710656 ∧ i < 9223372036854775808 := by omega
      have hlo : ¬ h'.length < g.length := by have := kp.2.1; omega
      have dx := datL_in dA i
      have vTA := val_take LA i
      have hLx := datL_get (show i < LA.length by omega)
      obtain ⟨x, hx1⟩ : ∃ x, datL LA i = x := ⟨_, rfl⟩
      rw [hx1] at dx vTA hLx
      have hin : (0 : Int) ≤ (i : Int) := by omega
      have v1 : IntKind.i64.wrap ((i : Int) + 1) = (i : Int) + 1 := wr_i64 _ (by omega) (by omega)
      have hcast : (((i + 1 : Nat)) : Int) = (i : Int) + 1 := by omega
      have hfl : (List.replicate i [(0 : Int)]).flatten = List.replicate i 0 := by simp
      simp (maxDischargeDepth := 9) -implicitDefEqProofs only [push_cast, simprocAttr, nadd1, nadd2, nadd3, nadd4, nadd5, nadd6, nadd7, nadd8, nadd9, nadd10, nadd11, nadd12, la, na, b0, l0, b1, l1, hlt', m1', hin, hlo, and_self, hfl, Int.toNat_natCast]
      refine wp_kSeq (wp_kBlock (wp_kSeq (wp_kBlock ?_)))
      refine wp_loop (fun e X H ws => ∃ (k : Nat) (w : AV) (c : Int) (R : List Int), e = n + 2 - k ∧ k ≤ n + 1 ∧ X = [(2, .ptr g.length 0), (3, .ptr (g.length + 1) 0), (4, .ptr (g.length + 2) 0), (5, .ptr (g.length + 3) 0), (6, .int .i64 (i : Int)), (7, w), (8, .int .u64 c), (9, .int .i64 (k : Int))] ∧
        T4 H w R h'.length ∧ Dig R ∧ R.length = i + k ∧ val R + c * 65536 ^ (i + k) = 65536 ^ i * (x * val (LB.take k)) ∧ 0 ≤ c ∧ c < 65536 ∧ (k = n + 1 → c = 0) ∧ Keeps h' H none ∧ ws = []) (n + 2) ?_ ?_
      · refine ⟨0, .sl h'.length 0 i i, 0, List.replicate i 0, by omega, by omega, ?_, Or.inr ⟨h'.length, Nat.le_refl _, Or.inl ⟨by simp, by simp [ABlk.new]⟩⟩, fun d hd => by have := List.eq_of_mem_replicate hd; omega, by simp, ?_, by omega, by omega, by omega, Keeps.app _ _ _ rfl, rfl⟩
        · simp (maxDischargeDepth := 9) -implicitDefEqProofs only [push_cast, simprocAttr]; try rfl
        · have : ∀ j : Nat, val (List.replicate j 0) = 0 := fun j => by
            induction j with
            | zero => rfl
            | succ j ih => rw [List.replicate_succ]; simp [val, ih]
          rw [this]; simp [val]
      · rintro e XX H ws ⟨k, w, c, R, rfl, hk, rfl, t, dR, lR, hvR, c0, c1, hend, kH, rfl⟩
        have kgH := keepsT kp kH
        have hHg := kgH.2.2 hg
        have uR := t.uv dR
        have nw := uR.na
        have uaH := ua.keep (keepsN kgH)
        have ubH := ub.keep (keepsN kgH)
        have uoH := uo.keep (keepsN kH)
        have B0 := keepsN kH _ _ b0
        have B1 := keepsN kH _ _ b1
        have B2 := keepsN kH _ _ b2
        have B3 := keepsN kH _ _ b3
        have L0 := (List.getElem?_eq_some_iff.1 B0).1
        have L1 := (List.getElem?_eq_some_iff.1 B1).1
        have L2 := (List.getElem?_eq_some_iff.1 B2).1
        have L3 := (List.getElem?_eq_some_iff.1 B3).1
        by_cases hcont : (k : Int) < (n : Int) ∨ 0 < c
        · have hkn : k ≤ n := by
            rcases hcont with h | h
            · omega
            · by_cases e : k = n + 1
              · have := hend e; omega
              · omega
          obtain ⟨bb, cc, ea1, ea2, hbl, hbs⟩ := uaH.at' hLx
          have e2 := at_c (i := k) hHg ubH (by omega) (by omega)
          have dy := datL_in dB k
          have vTB := val_take LB k
          have hy0 : k = n → datL LB k = 0 := fun e => datL_ge (by omega)
          obtain ⟨y, hy1⟩ : ∃ y, datL LB k = y := ⟨_, rfl⟩
          rw [hy1] at dy vTB e2 hy0
          have hxy0 : 0 ≤ x * y := Int.mul_nonneg dx.1 dy.1
          have hxy1 : x * y ≤ 65535 * y := Int.mul_le_mul_of_nonneg_right (by omega) dy.1
          obtain ⟨xy, hxy⟩ : ∃ z, x * y = z := ⟨_, rfl⟩
          rw [hxy] at hxy0 hxy1
          obtain ⟨z, hz⟩ : ∃ z, xy + c = z := ⟨_, rfl⟩
          obtain ⟨r, hr⟩ : ∃ r, z % 65536 = r := ⟨_, rfl⟩
          obtain ⟨q, hq⟩ : ∃ q, z / 65536 = q := ⟨_, rfl⟩
          have w1 : IntKind.u64.wrap x = x := wr_u64 _ (by omega) (by omega)
          have w2 : IntKind.u64.wrap y = y := wr_u64 _ (by omega) (by omega)
          have w3 : IntKind.u64.wrap xy = xy := wr_u64 _ (by omega) (by omega)
          have w4 : IntKind.u64.wrap z = z := wr_u64 _ (by omega) (by omega)
          have m1 : Int.tmod z 65536 = r := by rw [Int.tmod_eq_emod_of_nonneg (by omega)]; exact hr
          have m2 : Int.tdiv z 65536 = q := by rw [Int.tdiv_eq_ediv_of_nonneg (by omega)]; exact hq
          have w5 : IntKind.u64.wrap r = r := wr_u64 _ (by omega) (by omega)
          have w6 : IntKind.u32.wrap r = r := wr_u32 _ (by omega) (by omega)
          have w7 : IntKind.u64.wrap q = q := wr_u64 _ (by omega) (by omega)
          have v2 : IntKind.i64.wrap ((k : Int) + 1) = (k : Int) + 1 := wr_i64 _ (by omega) (by omega)
          have hcast2 : (((k + 1 : Nat)) : Int) = (k : Int) + 1 := by omega
          have hkb := keepsJ kH [⟨.tip false, .ints .u32 [r]⟩] rfl
          obtain ⟨w', H2, ws2, ea, t2, hw5, k2⟩ := app4 (B := [r]) (m := 1) (t.keep (h' := H ++ [⟨.tip false, .ints .u32 [r]⟩]) (fun q z e => by rw [List.getElem?_append_left (List.getElem?_eq_some_iff.1 e).1]; exact e)) rfl (by omega) hkb.2.1
          have en := new4 (H := H) r
          have d2 : Dig (R ++ [r]) := dR.app (Dig.one (by omega) (by omega))
          have kk : Keeps h' H2 none := keepsO hgh hkb k2 t.blk
          have nw2 := (t2.uv d2).na
          have hwa : wadd g.length [] ws2 = [] := wadd_ge fun q hq => by have := hw5 q hq; omega
          have hloH : ¬ H.length < g.length := by have := kgH.2.1; omega
          have hv2 : val (R ++ [r]) + q * 65536 ^ (i + (k + 1)) = 65536 ^ i * (x * val (LB.take (k + 1))) := by
            rw [val_snoc, lR, vTB, ← Nat.add_assoc, Int.pow_succ, Int.pow_add]
            rw [Int.pow_add] at hvR
            have e : z = 65536 * q + r := by omega
            have e2 : z = x * y + c := by omega
            obtain ⟨P, hP⟩ : ∃ P : Int, 65536 ^ i = P := ⟨_, rfl⟩
            obtain ⟨Q, hQ⟩ : ∃ P : Int, 65536 ^ k = P := ⟨_, rfl⟩
            obtain ⟨T, hT⟩ : ∃ T, val (LB.take k) = T := ⟨_, rfl⟩
            rw [hP, hQ] at hvR ⊢
            rw [hT] at hvR ⊢
            have h1 : r * (P * Q) + q * (P * Q * 65536) = z * (P * Q) := by rw [e]; grind
            have h2 : z * (P * Q) = x * y * (P * Q) + c * (P * Q) := by rw [e2]; grind
            have h3 : P * (x * (T + y * Q)) = P * (x * T) + x * y * (P * Q) := by grind
            omega
          have hend2 : k + 1 = n + 1 → q = 0 := fun e => by
            have hy := hy0 (by omega)
            have : xy = 0 := by rw [← hxy, hy]; simp
            omega
          have hble : ¬ H.length ≤ bb := by omega
          have hble0 : ¬ H.length ≤ g.length := by omega
          rcases hbs with hbs | ⟨oo, hbs⟩ <;> rcases hcont with f1 | f2
          rotate_left 1
          · by_cases f1 : (k : Int) < (n : Int)
            all_goals
              simp (maxDischargeDepth := 9) -implicitDefEqProofs only [push_cast, simprocAttr, nadd1, nadd2, nadd3, nadd4, nadd5, nadd6, nadd7, nadd8, nadd9, nadd10, nadd11, nadd12, na, nb, lb, nw, f1, f2, B0, L0, B1, L1, ↓uia_eq, ea1, ↓uld_eq 35, ea2, e2, hxy, hz, w1, w2, w3, w4, m1, m2, w5, w6, w7, en, ea, hwa, nw2, hloH, v2, hble, hble0, hbs, decide_false, Bool.not_false, Bool.and_true]
              refine loop_next (n + 2 - (k + 1)) (by omega) ⟨k + 1, w', q, R ++ [r], rfl, by omega, ?_, t2, d2, by simp [lR]; omega, hv2, by omega, by omega, hend2, kk, rfl⟩
              rw [hcast2]
              simp (maxDischargeDepth := 9) -implicitDefEqProofs only [push_cast, simprocAttr, nw2]; try simp
          rotate_left 1
          · by_cases f1 : (k : Int) < (n : Int)
            all_goals
              simp (maxDischargeDepth := 9) -implicitDefEqProofs only [push_cast, simprocAttr, nadd1, nadd2, nadd3, nadd4, nadd5, nadd6, nadd7, nadd8, nadd9, nadd10, nadd11, nadd12, na, nb, lb, nw, f1, f2, B0, L0, B1, L1, ↓uia_eq, ea1, ↓uld_eq 35, ea2, e2, hxy, hz, w1, w2, w3, w4, m1, m2, w5, w6, w7, en, ea, hwa, nw2, hloH, v2, hble, hble0, hbs, decide_false, Bool.not_false, Bool.and_true]
              refine loop_next (n + 2 - (k + 1)) (by omega) ⟨k + 1, w', q, R ++ [r], rfl, by omega, ?_, t2, d2, by simp [lR]; omega, hv2, by omega, by omega, hend2, kk, rfl⟩
              rw [hcast2]
              simp (maxDischargeDepth := 9) -implicitDefEqProofs only [push_cast, simprocAttr, nw2]; try simp
          all_goals
            simp (maxDischargeDepth := 9) -implicitDefEqProofs only [push_cast, simprocAttr, nadd1, nadd2, nadd3, nadd4, nadd5, nadd6, nadd7, nadd8, nadd9, nadd10, nadd11, nadd12, na, nb, lb, nw, f1, B0, L0, B1, L1, ↓uia_eq, ea1, ↓uld_eq 35, ea2, e2, hxy, hz, w1, w2, w3, w4, m1, m2, w5, w6, w7, en, ea, hwa, nw2, hloH, v2, hble, hble0, hbs, decide_false, Bool.not_false, Bool.and_true]
            refine loop_next (n + 2 - (k + 1)) (by omega) ⟨k + 1, w', q, R ++ [r], rfl, by omega, ?_, t2, d2, by simp [lR]; omega, hv2, by omega, by omega, hend2, kk, rfl⟩
            rw [hcast2]
            simp (maxDischargeDepth := 9) -implicitDefEqProofs only [push_cast, simprocAttr, nw2]; try simp
        · have f1 : ¬ (k : Int) < (n : Int) := fun h => hcont (Or.inl h)
          have f2 : ¬ 0 < c := fun h => hcont (Or.inr h)
          have hc0 : c = 0 := by omega
          rw [hc0, val_all LB (by omega)] at hvR
          obtain ⟨w2, js, eP, ⟨L, uL, vL, lL, _⟩, hG2, _⟩ := plus_c hHg uoH uR (by omega) (by omega)
          have kJ : Keeps H (H ++ js) none := keepsG hG2
          obtain ⟨Z, hZ⟩ : ∃ Z, H ++ js = Z := ⟨_, rfl⟩
          rw [hZ] at eP uL hG2 kJ
          have C0 := keepsN kJ _ _ B0
          have C1 := keepsN kJ _ _ B1
          have C2 := keepsN kJ _ _ B2
          have C3 := keepsN kJ _ _ B3
          have M3 := (List.getElem?_eq_some_iff.1 C3).1
          have nL := uL.na
          have D0 : ∀ z, (Z.set (g.length + 3) z)[g.length]? = some ⟨.tip false, .vals [.bool pA, a]⟩ := fun z => by rw [List.getElem?_set_ne (by omega)]; exact C0
          have D1 : ∀ z, (Z.set (g.length + 3) z)[g.length + 1]? = some ⟨.tip false, .vals [.bool pB, b]⟩ := fun z => by rw [List.getElem?_set_ne (by omega)]; exact C1
          have D2 : ∀ z, (Z.set (g.length + 3) z)[g.length + 2]? = some ⟨.tip false, .vals [.bool false, .nils]⟩ := fun z => by rw [List.getElem?_set_ne (by omega)]; exact C2
          have D3 : ∀ z, (Z.set (g.length + 3) z)[g.length + 3]? = some z := fun z => List.getElem?_set_self M3
          have kF : Keeps g (Z.set (g.length + 3) ⟨.tip false, .vals [.bool false, w2]⟩) none := keepsS (keepsT kgH kJ) (by omega) rfl
          have uF := UV.setv (B := [.bool false, w2]) C3 uL
          have hvF : val L = val (LA.take (i + 1)) * val LB := by
            rw [vL, hv, vTA]
            have : val R = 65536 ^ i * (x * val LB) := by omega
            rw [this]; grind
          have hlF : L.length ≤ n + 2 + 2 * (i + 1) := by omega
          have hloZ : ¬ g.length + 3 < g.length := by omega
          rcases uL.shape with rfl | ⟨_, _, _, rfl⟩ | ⟨_, _, _, rfl⟩
          all_goals
            simp (maxDischargeDepth := 9) -implicitDefEqProofs only [push_cast, simprocAttr, nadd1, nadd2, nadd3, nadd4, nadd5, nadd6, nadd7, nadd8, nadd9, nadd10, nadd11, nadd12, nb, lb, nw, no, f1, f2, B1, L1, B3, L3, eP, nL, C3, M3, hloZ, v1]
            refine loop_next (m - (i + 1)) (by omega) ⟨i + 1, _, L, rfl, by omega, ?_, D0 _, D1 _, D2 _, D3 _, uF, hvF, by omega, kF, rfl⟩
            rw [hcast]
            simp (maxDischargeDepth := 9) -implicitDefEqProofs only [push_cast, simprocAttr]; try simp
    · have hnl : ¬ (i : Int) < (m : Int) := by omega
      rw [val_all LA (by omega)] at hv
      obtain ⟨s, hs⟩ : ∃ s, (!(pA == pB)) = s := ⟨_, rfl⟩
      have hS : sgn s (val O) = SA * SB := by
        rw [sA, sB, hv, ← hs]
        unfold sgn
        cases pA <;> cases pB <;> simp [Int.neg_mul, Int.mul_neg]
      have B3 : (h'.set (g.length + 3) ⟨.tip false, .vals [.bool s, o]⟩)[g.length + 3]? = some ⟨.tip false, .vals [.bool s, o]⟩ := List.getElem?_set_self l3
      have B2 : (h'.set (g.length + 3) ⟨.tip false, .vals [.bool s, o]⟩)[g.length + 2]? = some ⟨.tip false, .vals [.bool false, .nils]⟩ := by rw [List.getElem?_set_ne (by omega)]; exact b2
      have uo2 := UV.setv (B := [.bool s, o]) b3 uo
      have k2 : Keeps g (h'.set (g.length + 3) ⟨.tip false, .vals [.bool s, o]⟩) none := keepsS kp (by omega) rfl
      obtain ⟨Y, hY⟩ : ∃ Y, h'.set (g.length + 3) ⟨.tip false, .vals [.bool s, o]⟩ = Y := ⟨_, rfl⟩
      rw [hY] at B3 B2 uo2 k2
      have L3 := (List.getElem?_eq_some_iff.1 B3).1
      obtain ⟨r, js, eT, bT, hG2⟩ := trim_big (s := s) (S := SA * SB) (k2.2.2 hg) uo2 (by omega) hS
      have hfit : aN (SA * SB) < 65536 ^ (nA + nB) := by
        have e : aN (SA * SB) = val LA * val LB := by
          have := (sgn_big (s := s) (V := val O) (val_bound uo.1).1 hS).2
          rw [← this, hv]
        rw [e, Int.pow_add]
        have h1 := pow_le (show LA.length ≤ nA by omega)
        have h2 := pow_le (show LB.length ≤ nB by omega)
        have p1 := pow_pos' nA
        have p2 := pow_pos' nB
        calc val LA * val LB ≤ val LA * 65536 ^ nB := Int.mul_le_mul_of_nonneg_left (by omega) (by omega)
          _ < 65536 ^ nA * 65536 ^ nB := Int.mul_lt_mul_of_pos_right (by omega) p2
      obtain ⟨v, M, rfl, uM, vM, cM, lM⟩ := bT.fit hfit
      have kJ : Keeps Y (Y ++ js) none := keepsG hG2
      obtain ⟨Z, hZ⟩ : ∃ Z, Y ++ js = Z := ⟨_, rfl⟩
      rw [hZ] at eT uM hG2 kJ
      have C2 := keepsN kJ _ _ B2
      have M2 := (List.getElem?_eq_some_iff.1 C2).1
      have nv := uM.na
      have cv := uM.cell
      have uF := UV.setv (B := [.bool (decide (SA * SB < 0)), v]) C2 uM
      have kF : Keeps g (Z.set (g.length + 2) ⟨.tip false, .vals [.bool (decide (SA * SB < 0)), v]⟩) none := keepsS (keepsT k2 kJ) (by omega) rfl
      have hxor : (pA != pB) = s := by rw [← hs]; rfl
      simp (maxDischargeDepth := 9) -implicitDefEqProofs only [push_cast, simprocAttr, nadd1, nadd2, nadd3, nadd4, nadd5, nadd6, nadd7, nadd8, nadd9, nadd10, nadd11, nadd12, la, na, no, co, b0, l0, b1, l1, b3, l3, hnl, hs, hxor, hY, B3, L3, eT, nv, cv, C2, M2]
      exact ⟨⟨v, M, rfl, uF, vM, cM, lM⟩, kF⟩
end
end Go.Proofs.YtcpiohklljppaaaW.AI.D
