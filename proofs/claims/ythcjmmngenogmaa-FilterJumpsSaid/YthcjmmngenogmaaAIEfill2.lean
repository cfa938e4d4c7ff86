import Derived.Test.YthcjmmngenogmaaAIEfill1
namespace Go.Proofs.YthcjmmngenogmaaW.AI.E
open Go Go.Proofs.YthcjmmngenogmaaW.AI
set_option maxRecDepth 100000
set_option linter.unusedSimpArgs false
set_option linter.unusedVariables false
set_option linter.unusedSectionVars false
theorem sc3s (k : IntKind) (a b c : Int) : scEqs [0, 0, 0] [.int k a, .int k b, .int k c] [.int k a, .int k b, .int k c] = some true := by simp [scEqs, scEq]
/-- Ages with tick 1 and phi 0. -/
theorem up10 {x : Int} (h0 : 0 ≤ x) (h1 : x ≤ 1000000000) : upV 1 0 x = x + 2 := by
  obtain ⟨u, eu, u1, _, u3, u4⟩ := upV_char (t := 1) (f := 0) (by decide) (by decide) (by decide) (by decide) h0 (by omega)
  rw [eu]
  omega
theorem down10 {x : Int} (h0 : 2 ≤ x) (h1 : x ≤ 1000000000) : downV 1 0 x = x - 2 := by
  obtain ⟨u, eu, u1, u2, u3, u4⟩ := downV_char (t := 1) (f := 0) (x := x) (by decide) (by decide) (by decide) (by decide) (by omega) (by omega)
  rw [eu]
  omega
/-- All are one. -/
theorem best_one {A : List Sp} {c : Sp} (hne : A ≠ []) (h : ∀ s ∈ A, s = c) : bestS A = c := h _ (List.mem_of_getElem? (bestS_at hne))
theorem jit_one {A : List Sp} {c : Sp} (hne : A ≠ []) (h : ∀ s ∈ A, s = c) : jitS A = 0 := by
  have hz : ∀ d ∈ distL A, d = 0 := fun d hd => by
    unfold distL at hd
    obtain ⟨s, hs, rfl⟩ := List.mem_map.1 hd
    rw [h s hs, best_one hne h]
    simp [apS]
  have hs : (distL A).sum = 0 := by
    generalize distL A = D at hz
    induction D with
    | nil => rfl
    | cons d D ih =>
      rw [List.sum_cons, ih fun x hx => hz x (List.mem_cons_of_mem _ hx), hz d List.mem_cons_self]
      rfl
  unfold jitS
  rw [hs]
  exact Int.zero_ediv _
abbrev frm : Int := 1125899906842624
def spJ (k : Nat) : Sp := ((k : Int) * 100, frm + (k : Int) * 100, frm + (k : Int) * 100 + 10)
def jL : Nat → List Sp
  | 0 => []
  | k + 1 => (spJ k :: jL k).take 8
def jF (k : Nat) : FS := ⟨1, 0, jL k, -1, false⟩
theorem jL_len : ∀ k : Nat, (jL k).length = min k 8
  | 0 => rfl
  | k + 1 => by simp only [jL, List.length_take, List.length_cons, jL_len k]; omega
theorem jL_mem : ∀ (k : Nat) (s : Sp), s ∈ jL k → ∃ i, i < k ∧ s = spJ i
  | 0, s, h => by simp [jL] at h
  | k + 1, s, h => by
    have h := List.mem_of_mem_take h
    rcases List.mem_cons.1 h with rfl | h
    · exact ⟨k, by omega, rfl⟩
    · obtain ⟨i, hi, e⟩ := jL_mem k s h
      exact ⟨i, by omega, e⟩
theorem jL_head (k : Nat) : (jL (k + 1))[0]? = some (spJ k) := rfl
def cJ (k : Nat) : Sp := ((k : Int) * 100, frm + (k : Int) * 100 - 2, frm + (k : Int) * 100 + 12)
theorem may_J {a l u : Int} (h1 : 0 ≤ a) (h2 : a ≤ 1000000) (h3 : 0 ≤ l) (h4 : l ≤ u) (h5 : u ≤ 4611686018427387904) : mayS a l u = true := mayS_iff.2 ⟨⟨by omega, by omega⟩, by omega, by omega, by omega⟩
theorem age_J {i k : Nat} (hi : i < k) (hk : k ≤ 13) : age1 1 0 ((k : Int) * 100) (spJ i) = cJ k := by
  unfold age1 spJ cJ
  simp only
  have e1 := up10 (x := (k : Int) * 100 - (i : Int) * 100) (by omega) (by omega)
  have e2 := down10 (x := (k : Int) * 100 - (i : Int) * 100) (by omega) (by omega)
  rw [e1, e2, bro_id (by unfold frm; omega) (by unfold frm; omega), bro_id (by unfold frm; omega) (by unfold frm; omega)]
  simp only [Prod.mk.injEq, true_and]
  omega
theorem ageL_J {k : Nat} (hk : k ≤ 13) : ∀ s ∈ ageL (jF k) ((k : Int) * 100), s = cJ k := by
  intro s hs
  obtain ⟨u, hu, rfl⟩ := List.mem_map.1 hs
  obtain ⟨i, hi, rfl⟩ := jL_mem k u hu
  exact age_J hi hk
theorem can_J {k : Nat} (hk : k ≤ 13) (h0 : 0 < k) : canL (jF k) ((k : Int) * 100) := by
  refine ⟨fun e => ?_, fun s hs => ?_⟩
  · have := jL_len k
    have e : jL k = [] := e
    rw [e] at this
    simp at this
    omega
  · obtain ⟨i, hi, rfl⟩ := jL_mem k s hs
    exact ⟨may_J (by simp only [spJ]; omega) (by simp only [spJ]; omega) (by simp only [spJ, frm]; omega) (by simp only [spJ]; omega) (by simp only [spJ, frm]; omega), by simp only [spJ]; omega, by omega⟩
/-- A span of the width 10 that stands by d from where it should. -/
def sJ (k : Nat) (d : Int) : Sp := ((k : Int) * 100, frm + (k : Int) * 100 + d, frm + (k : Int) * 100 + d + 10)
theorem jmp_J {k : Nat} {d : Int} (hk : k ≤ 13) (d0 : 0 ≤ d) (d1 : d ≤ 1099511637776) : jmpF (jF k) (sJ k d) ↔ 3 ≤ k ∧ 24 < d := by
  unfold jmpF
  have hl : (jF k).L.length = min k 8 := jL_len k
  rw [hl]
  have hs1 : (sJ k d).1 = (k : Int) * 100 := rfl
  by_cases h0 : 0 < k
  · have hc := can_J hk h0
    have hne := ageL_ne hc
    have ha := ageL_J hk
    have hb := best_one hne ha
    have hj : jitF (jF k) ((k : Int) * 100) = 0 := by
      unfold jitF
      split
      · rfl
      · exact jit_one hne ha
    have hjmp : jmpB (jF k) (sJ k d) = decide (24 < d) := by
      unfold jmpB
      rw [hs1, hb, hj]
      have m1 : mayS (sJ k d).1 (sJ k d).2.1 (sJ k d).2.2 = true := may_J (by simp only [sJ]; omega) (by simp only [sJ]; omega) (by simp only [sJ, frm]; omega) (by simp only [sJ, frm]; omega) (by simp only [sJ, frm]; omega)
      have m2 : mayS (cJ k).1 (cJ k).2.1 (cJ k).2.2 = true := may_J (by simp only [cJ]; omega) (by simp only [cJ]; omega) (by simp only [cJ, frm]; omega) (by simp only [cJ, frm]; omega) (by simp only [cJ, frm]; omega)
      have w1 : wS (sJ k d) = 10 := by unfold wS widS; rw [if_pos m1]; simp only [sJ]; omega
      have w2 : wS (cJ k) = 14 := by unfold wS widS; rw [if_pos m2]; simp only [cJ]; omega
      have a1 : apS (sJ k d) (cJ k) = d := by
        unfold apS mS midS
        rw [if_pos m1, if_pos m2]
        simp only [sJ, cJ]
        omega
      rw [w1, w2, a1]
      exact decide_eq_decide.2 (by omega)
    rw [hjmp, hs1]
    simp only [hc, true_and, decide_eq_true_eq]
    omega
  · constructor
    · exact fun e => by omega
    · exact fun e => by omega
theorem bad_J {k : Nat} {a d : Int} (hk : k ≤ 13) (a0 : (k : Int) * 100 ≤ a) (a1 : a ≤ 10000) (d0 : 0 ≤ d) (d1 : d ≤ 1099511637776) (F : FS) (hF : F.L = jL k) (w : Int) (w0 : 0 ≤ w) (w1 : w ≤ 100) : ¬ badP F (a, frm + a + d, frm + a + d + w) := by
  unfold badP
  rintro (h | ⟨t, h1, h2⟩)
  · have : mayS a (frm + a + d) (frm + a + d + w) = true := may_J (by omega) (by omega) (by unfold frm; omega) (by omega) (by unfold frm; omega)
    simp only at h
    rw [this] at h
    cases h
  · rw [hF] at h1
    obtain ⟨i, hi, rfl⟩ := jL_mem k t (List.mem_of_getElem? h1)
    simp only [spJ] at h2
    omega
theorem put_J {k : Nat} (hk : k ≤ 12) : putF (jF k) (sJ k 0) = (0, jF (k + 1)) := by
  have hb := bad_J (k := k) (a := (k : Int) * 100) (d := 0) (by omega) (Int.le_refl _) (by omega) (by decide) (by decide) (jF k) rfl 10 (by decide) (by decide)
  have hj : ¬ (jmpF (jF k) (sJ k 0) ∧ (jF k).held = false) := fun e => by
    have := ((jmp_J (k := k) (d := 0) (by omega) (by decide) (by decide)).1 e.1).2
    omega
  have hb : ¬ badP (jF k) (sJ k 0) := hb
  unfold putF
  rw [if_neg hb, if_neg hj]
  have : sJ k 0 = spJ k := by unfold sJ spJ; rw [Int.add_zero]
  rw [this]
  rfl
set_option maxHeartbeats 32000000 in
theorem fjumps_body {g : AHeap} (hg : Good g) {mn by' : Int} {ag : Bool} (m0 : 0 ≤ mn) (m1 : mn ≤ 255) (b0 : 0 ≤ by') (b1 : by' < 18446744073709551616) :
    Wp (xbody (W CP) M9 [.int .u8 mn, .int .u64 by', .bool ag] g) fun r => r.1 = .bool true := by
  have al := fun h => alive20 h
  obtain ⟨p, H1, e1, hp, l1, hG1, k1, f1⟩ := fnew_at (t := 1) (f := 0) (by decide) (by decide) (by decide) (by decide) hg
  have hp0 : g.length ≤ p := by omega
  have hmt : mn.tmod 13 = mn % 13 := Int.tmod_eq_emod_of_nonneg m0
  obtain ⟨n, hn⟩ : ∃ n : Nat, mn % 13 = (n : Int) := ⟨(mn % 13).toNat, by omega⟩
  have hn13 : n ≤ 12 := by omega
  rw [hn] at hmt
  have wn1 : IntKind.u8.wrap (n : Int) = (n : Int) := wr_u8 _ (by omega) (by omega)
  have wn2 : IntKind.i64.wrap (n : Int) = (n : Int) := wr_i64 _ (by omega) (by omega)
  have hbt : by'.tmod 1099511627776 = by' % 1099511627776 := Int.tmod_eq_emod_of_nonneg b0
  obtain ⟨b, hb⟩ : ∃ b, by' % 1099511627776 = b := ⟨_, rfl⟩
  rw [hb] at hbt
  have wb1 : IntKind.u64.wrap b = b := wr_u64 _ (by omega) (by omega)
  have wb2 : IntKind.i64.wrap b = b := wr_i64 _ (by omega) (by omega)
  obtain ⟨d, hd⟩ : ∃ d, 10000 + b = d := ⟨_, rfl⟩
  have wb3 : IntKind.i64.wrap (10000 + b) = d := by rw [hd]; exact wr_i64 _ (by omega) (by omega)
  obtain ⟨r, hr⟩ : ∃ r, g.length = r := ⟨_, rfl⟩
  rw [hr] at f1
  simp (maxDischargeDepth := 9) -implicitDefEqProofs only [push_cast, simprocAttr, M9, nadd1, nadd2, nadd3, nadd4, nadd5, nadd6, nadd7, nadd8, nadd9, nadd10, nadd11, nadd12, e1, hmt, wn1, wn2]
  refine wp_kRes (wp_kSeq (wp_kBlock ?_))
  refine wp_loop (fun kk x h' ws => ∃ (i : Nat) (C : List Int), kk = n - i ∧ i ≤ n ∧ x = [(1, .int .u64 by'), (2, .bool ag), (7, .ptr p 0), (9, .int .i64 (n : Int)), (10, .int .i64 (i : Int))] ∧ FilAt h' p (jF i) r C ∧ Keeps g h' none ∧ p < h'.length ∧ ws = []) n ?_ ?_
  · refine ⟨0, C0, by omega, by omega, ?_, f1, k1, by omega, rfl⟩
    simp (maxDischargeDepth := 9) -implicitDefEqProofs only [push_cast, simprocAttr]; try rfl
  · rintro kk xx h' ws ⟨i, C, rfl, hi, rfl, fa, kh, hpl, rfl⟩
    have hgh := kh.2.2 hg
    by_cases hlt : i < n
    · have hlt' : (i : Int) < (n : Int) := by omega
      have v1 : IntKind.i64.wrap ((i : Int) + 1) = (i : Int) + 1 := wr_i64 _ (by omega) (by omega)
      have v2 : IntKind.i64.wrap ((i : Int) * 100) = (i : Int) * 100 := wr_i64 _ (by omega) (by omega)
      have v3 : IntKind.i64.wrap (1125899906842624 + (i : Int) * 100) = 1125899906842624 + (i : Int) * 100 := wr_i64 _ (by omega) (by omega)
      have v4 : IntKind.i64.wrap (1125899906842624 + (i : Int) * 100 + 10) = 1125899906842624 + (i : Int) * 100 + 10 := wr_i64 _ (by omega) (by omega)
      obtain ⟨C4, X4, ws4, hw4, eP, nX4, fa4⟩ := put_c (s := sJ i 0) hgh fa (by omega)
      rw [put_J (by omega)] at eP fa4
      have eP' : W CP 34 [.ptr p 0, spA ((i : Int) * 100) (1125899906842624 + (i : Int) * 100) (1125899906842624 + (i : Int) * 100 + 10)] h' = some (.int .i64 0, h'.set p X4, ws4) := by
        have e : spV (sJ i 0) = spA ((i : Int) * 100) (1125899906842624 + (i : Int) * 100) (1125899906842624 + (i : Int) * 100 + 10) := by
          simp only [sJ, frm, Int.add_zero]
        rw [← e]
        exact eP
      have hw4' := wadd_p hp0 hw4
      simp (maxDischargeDepth := 9) -implicitDefEqProofs only [push_cast, simprocAttr, nadd1, nadd2, nadd3, nadd4, nadd5, nadd6, nadd7, nadd8, nadd9, nadd10, nadd11, nadd12, hlt', v1, v2, v3, v4, eP', hw4']
      refine loop_next (n - (i + 1)) (by omega) ⟨i + 1, C4, rfl, by omega, ?_, fa4, keepsS kh hp0 nX4, by rw [List.length_set]; exact hpl, rfl⟩
      simp (maxDischargeDepth := 9) -implicitDefEqProofs only [push_cast, simprocAttr]; try simp
    · obtain rfl : i = n := by omega
      have hnl : ¬ (i : Int) < (i : Int) := by omega
      have v2 : IntKind.i64.wrap ((i : Int) * 100) = (i : Int) * 100 := wr_i64 _ (by omega) (by omega)
      obtain ⟨a, ha⟩ : ∃ a, (i : Int) * 100 = a := ⟨_, rfl⟩
      have v2' : IntKind.i64.wrap ((i : Int) * 100) = a := by rw [v2, ha]
      have v3 : IntKind.i64.wrap (1125899906842624 + a) = 1125899906842624 + a := wr_i64 _ (by omega) (by omega)
      have v5 : IntKind.i64.wrap (1125899906842624 + a + d) = 1125899906842624 + a + d := wr_i64 _ (by omega) (by omega)
      have v6 : IntKind.i64.wrap (1125899906842624 + a + d + 10) = 1125899906842624 + a + d + 10 := wr_i64 _ (by omega) (by omega)
      -- the rows
      have eR1 := frow_c hgh fa
      have rv1 := row_rv h' (jF i).L
      have hG2 := row_good hgh (jF i).L
      have kr1 : Keeps h' (h' ++ rowJ (jF i).L) none := keepsG hG2
      have fa2 := fa.kept kr1
      obtain ⟨w1, hw1⟩ : ∃ w, rowV h'.length (jF i).L = w := ⟨_, rfl⟩
      obtain ⟨H2, hH2⟩ : ∃ H, h' ++ rowJ (jF i).L = H := ⟨_, rfl⟩
      rw [hw1, hH2] at eR1 rv1
      rw [hH2] at hG2 kr1 fa2
      have hl2 := kr1.2.1
      -- the jump
      obtain ⟨C4, X4, ws4, hw4, eP, nX4, fa4⟩ := put_c (s := sJ i d) hG2 fa2 (by omega)
      have hbad : ¬ badP (jF i) (sJ i d) := bad_J (k := i) (a := (i : Int) * 100) (d := d) (by omega) (Int.le_refl _) (by omega) (by omega) (by omega) (jF i) rfl 10 (by decide) (by decide)
      have hjm := jmp_J (k := i) (d := d) (by omega) (by omega) (by omega)
      have esp : spV (sJ i d) = spA a (1125899906842624 + a + d) (1125899906842624 + a + d + 10) := by simp only [sJ, frm, ha]
      have hw4' := wadd_p hp0 hw4
      have hG3 : Good (H2.set p X4) := good_set hG2 nX4
      have kg3 : Keeps g (H2.set p X4) none := keepsS (keepsT kh kr1) hp0 nX4
      have hl3 : (H2.set p X4).length = H2.length := List.length_set ..
      have rv1' : RV (H2.set p X4) w1 (jF i).L h'.length := by
        obtain ⟨bb, o, hb1, eb, hv⟩ := rv1
        exact ⟨bb, o, hb1, by rw [List.getElem?_set_ne (by omega)]; exact eb, hv⟩
      obtain ⟨H3, hH3⟩ : ∃ H, H2.set p X4 = H := ⟨_, rfl⟩
      rw [hH3] at eP fa4 hG3 kg3 hl3 rv1'
      rw [esp] at eP
      have eH3 := held_c hG3 fa4
      have eR3 := frow_c hG3 fa4
      by_cases h3 : 3 ≤ i
      · -- it is held
        have hput : putF (jF i) (sJ i d) = (35, heldF (jF i)) := by
          unfold putF
          rw [if_neg hbad, if_pos ⟨hjm.2 ⟨h3, by omega⟩, rfl⟩]
        rw [hput] at eP fa4 eH3 eR3
        have rv3 := row_rv H3 (jF i).L
        have hG4 := row_good hG3 (jF i).L
        have kr3 : Keeps H3 (H3 ++ rowJ (jF i).L) none := keepsG hG4
        have hL3 : (heldF (jF i)).L = (jF i).L := rfl
        simp only [hL3] at eR3
        have hh3 : (heldF (jF i)).held = true := rfl
        simp only [hh3] at eH3
        have fa4 := fa4.kept kr3
        have rv1'' := rv1'.kept kr3
        obtain ⟨w3, hw3⟩ : ∃ w, rowV H3.length (jF i).L = w := ⟨_, rfl⟩
        obtain ⟨H4, hH4⟩ : ∃ H, H3 ++ rowJ (jF i).L = H := ⟨_, rfl⟩
        rw [hw3, hH4] at eR3 rv3
        rw [hH4] at hG4 kr3 fa4 rv1''
        have hl4 := kr3.2.1
        have kg4 := keepsT kg3 kr3
        have nw1 := rv1.na
        have nw3 := rv3.na
        have lw1 := rv1.len
        have lw3 := rv3.len
        have hm8 : (jF i).L.length = min i 8 := jL_len i
        obtain ⟨m, hm⟩ : ∃ m, (jF i).L.length = m := ⟨_, rfl⟩
        rw [hm] at hm8
        rw [hm] at lw1 lw3
        have h3' : (3 : Int) ≤ (i : Int) := by omega
        have h3'' : ¬ (i : Int) < 3 := by omega
        simp (maxDischargeDepth := 9) -implicitDefEqProofs only [push_cast, simprocAttr, nadd1, nadd2, nadd3, nadd4, nadd5, nadd6, nadd7, nadd8, nadd9, nadd10, nadd11, nadd12, hnl, v2', v3, v5, v6, hbt, wb1, wb2, wb3, eR1, nw1, eP, hw4', hH3, eH3, eR3, nw3, lw1, lw3, h3', h3'']
        refine wp_kSeq (wp_kBlock ?_)
        refine wp_loop (fun kk x hh ws => ∃ j : Nat, kk = m - j ∧ j ≤ m ∧ x = [(2, .bool ag), (7, .ptr p 0), (12, .int .i64 a), (13, .int .i64 d), (14, w1), (15, .int .i64 35), (16, w3), (17, .int .i64 (j : Int))] ∧ hh = H4 ∧ ws = []) m ?_ ?_
        · refine ⟨0, by omega, by omega, ?_, rfl, rfl⟩
          simp (maxDischargeDepth := 9) -implicitDefEqProofs only [push_cast, simprocAttr, nw1, nw3]; try rfl
        · rintro kk xx hh ws ⟨j, rfl, hj, rfl, hhe, rfl⟩
          obtain rfl : H4 = hh := hhe.symm
          have u1 : IntKind.i64.wrap ((j : Int) + 1) = (j : Int) + 1 := wr_i64 _ (by omega) (by omega)
          by_cases hjl : j < m
          · have hjl' : (j : Int) < (m : Int) := by omega
            obtain ⟨s, hs⟩ : ∃ s, (jF i).L[j]? = some s := ⟨_, List.getElem?_eq_getElem (by omega)⟩
            obtain ⟨q1, x1, x2, _⟩ := rv3.at hs
            obtain ⟨q2, y1, y2, _⟩ := rv1''.at hs
            obtain ⟨sx, sy, sz⟩ := s
            simp (maxDischargeDepth := 9) -implicitDefEqProofs only [push_cast, simprocAttr, nadd1, nadd2, nadd3, nadd4, nadd5, nadd6, nadd7, nadd8, nadd9, nadd10, nadd11, nadd12, hjl', u1, nw1, nw3, lw3, ↓uia_eq, x1, ↓uld_eq 104, x2, y1, ↓uld_eq 108, y2, sc3s]
            refine loop_next (m - (j + 1)) (by omega) ⟨j + 1, rfl, by omega, ?_, rfl, rfl⟩
            simp (maxDischargeDepth := 9) -implicitDefEqProofs only [push_cast, simprocAttr, nw1, nw3]; try simp
          · have hjn : ¬ (j : Int) < (m : Int) := by omega
            -- the next one
            have key : ∀ e : Int, 0 ≤ e → e ≤ 1099511637776 → ∃ (C6 : List Int) (X6 : ABlk) (ws6 : List Nat) (H6 : AHeap) (w6 : AV) (H7 : AHeap) (q6 : Nat), W CP 34 [.ptr p 0, spA (a + 1) (1125899906842624 + a + 1 + e) (1125899906842624 + a + 11 + e)] (H4 ++ [⟨.tip false, .ints .i64 [a + 1, 1125899906842624 + a + 1 + e, 1125899906842624 + a + 11 + e]⟩]) = some (.int .i64 0, H6, ws6) ∧ wadd g.length [] ws6 = [] ∧
                W CP 42 [.ptr p 0] H6 = some (.bool false, H6, []) ∧ W CP 41 [.ptr p 0] H6 = some (w6, H7, []) ∧ noAny (some w6) = some w6 ∧ (∀ g, uia 3 g 0 (some w6) = some (.ptr q6 0, g, [])) ∧ uld (some 3) H7 (some (.ptr q6 0)) = some (spA (a + 1) (1125899906842624 + a + 1 + e) (1125899906842624 + a + 11 + e), H7, []) ∧
                H7[H4.length]? = some ⟨.tip false, .ints .i64 [a + 1, 1125899906842624 + a + 1 + e, 1125899906842624 + a + 11 + e]⟩ ∧ H4.length < H7.length ∧ ¬ H6.length ≤ H4.length ∧ ∃ o c, H7[q6]? = some ⟨.tip o, c⟩ := by
              intro e he0 he1
              have hG5 : Good (H4 ++ [⟨.tip false, .ints .i64 [a + 1, 1125899906842624 + a + 1 + e, 1125899906842624 + a + 11 + e]⟩]) := good_app hG4 rfl
              have fa5 := fa4.app [⟨.tip false, .ints .i64 [a + 1, 1125899906842624 + a + 1 + e, 1125899906842624 + a + 11 + e]⟩]
              have c5 : (H4 ++ [(⟨.tip false, .ints .i64 [a + 1, 1125899906842624 + a + 1 + e, 1125899906842624 + a + 11 + e]⟩ : ABlk)])[H4.length]? = some ⟨.tip false, .ints .i64 [a + 1, 1125899906842624 + a + 1 + e, 1125899906842624 + a + 11 + e]⟩ := fend _ _ _
              have lH5 : (H4 ++ [(⟨.tip false, .ints .i64 [a + 1, 1125899906842624 + a + 1 + e, 1125899906842624 + a + 11 + e]⟩ : ABlk)]).length = H4.length + 1 := by simp
              obtain ⟨H5, hH5⟩ : ∃ H5, H4 ++ [(⟨.tip false, .ints .i64 [a + 1, 1125899906842624 + a + 1 + e, 1125899906842624 + a + 11 + e]⟩ : ABlk)] = H5 := ⟨_, rfl⟩
              rw [hH5] at hG5 fa5 c5 lH5 ⊢
              obtain ⟨C6, X6, ws6, hw6, eP6, nX6, fa6⟩ := put_c (s := (a + 1, 1125899906842624 + a + 1 + e, 1125899906842624 + a + 11 + e)) hG5 fa5 (by omega)
              have hnb : ¬ badP (heldF (jF i)) (a + 1, 1125899906842624 + a + 1 + e, 1125899906842624 + a + 11 + e) := by
                have := bad_J (k := i) (a := a + 1) (d := e) (by omega) (by omega) (by omega) he0 he1 (heldF (jF i)) rfl 10 (by decide) (by decide)
                rw [show frm + (a + 1) + e = 1125899906842624 + a + 1 + e by unfold frm; omega, show 1125899906842624 + a + 1 + e + 10 = 1125899906842624 + a + 11 + e by omega] at this
                exact this
              have hpt : putF (heldF (jF i)) (a + 1, 1125899906842624 + a + 1 + e, 1125899906842624 + a + 11 + e) = (0, addF (heldF (jF i)) (a + 1, 1125899906842624 + a + 1 + e, 1125899906842624 + a + 11 + e)) := by
                unfold putF
                rw [if_neg hnb, if_neg fun e => by have := e.2; cases this]
              rw [hpt] at eP6 fa6
              have hG6 : Good (H5.set p X6) := good_set hG5 nX6
              have eH6 := held_c hG6 fa6
              have eR6 := frow_c hG6 fa6
              have rv6 := row_rv (H5.set p X6) (addF (heldF (jF i)) (a + 1, 1125899906842624 + a + 1 + e, 1125899906842624 + a + 11 + e)).L
              have hs0 : (addF (heldF (jF i)) (a + 1, 1125899906842624 + a + 1 + e, 1125899906842624 + a + 11 + e)).L[0]? = some (a + 1, 1125899906842624 + a + 1 + e, 1125899906842624 + a + 11 + e) := rfl
              obtain ⟨q6, x1, x2, _, _, o6, c6', x5⟩ := rv6.at hs0
              have c6 : (H5.set p X6)[H4.length]? = some ⟨.tip false, .ints .i64 [a + 1, 1125899906842624 + a + 1 + e, 1125899906842624 + a + 11 + e]⟩ := by rw [List.getElem?_set_ne (by omega)]; exact c5
              have kr6 := keepsG (row_good hG6 (addF (heldF (jF i)) (a + 1, 1125899906842624 + a + 1 + e, 1125899906842624 + a + 11 + e)).L)
              have c7 := keepsN kr6 _ _ c6
              refine ⟨C6, X6, ws6, _, _, _, q6, eP6, wadd_p hp0 hw6, eH6, eR6, rv6.na, fun g => by simpa using x1 g, by simpa using x2, c7, (List.getElem?_eq_some_iff.1 c7).1, by rw [List.length_set]; omega, _, _, x5⟩
            have u2 : IntKind.i64.wrap (a + 1) = a + 1 := wr_i64 _ (by omega) (by omega)
            have u3 : IntKind.i64.wrap (1125899906842624 + a + 1) = 1125899906842624 + a + 1 := wr_i64 _ (by omega) (by omega)
            have u4 : IntKind.i64.wrap (1125899906842624 + a + 11) = 1125899906842624 + a + 11 := wr_i64 _ (by omega) (by omega)
            have u5 : IntKind.i64.wrap (1125899906842624 + a + 1 + d) = 1125899906842624 + a + 1 + d := wr_i64 _ (by omega) (by omega)
            have u6 : IntKind.i64.wrap (1125899906842624 + a + 11 + d) = 1125899906842624 + a + 11 + d := wr_i64 _ (by omega) (by omega)
            have hsets : ∀ (z : ABlk) (y : ABlk), (H4 ++ [y]).set H4.length z = H4 ++ [z] := fun z y => by
              rw [List.set_append_right _ _ (Nat.le_refl _), Nat.sub_self]; rfl
            have gg : ¬ H4.length < g.length := by have := kg4.2.1; omega
            cases ag with
            | false =>
              obtain ⟨C6, X6, ws6, H6, w6, H7, q6, z1, z2, z3, z4, z5, z6, z7, z8, z9, z10, o6, c6, z11⟩ := key 0 (by decide) (by decide)
              simp only [Int.add_zero] at z1 z7 z8
              simp (maxDischargeDepth := 9) -implicitDefEqProofs only [push_cast, simprocAttr, nadd1, nadd2, nadd3, nadd4, nadd5, nadd6, nadd7, nadd8, nadd9, nadd10, nadd11, nadd12, hjn, nw1, nw3, lw3, v3, u2, u3, u4, hsets, gg, z1, z2, z3, z4, z5, ↓uia_eq, z6, ↓uld_eq 146, z7, z8, z9, z10, z11, sc3s, al, decide_false, Bool.not_false, Bool.and_true]
            | true =>
              obtain ⟨C6, X6, ws6, H6, w6, H7, q6, z1, z2, z3, z4, z5, z6, z7, z8, z9, z10, o6, c6, z11⟩ := key d (by omega) (by omega)
              simp (maxDischargeDepth := 9) -implicitDefEqProofs only [push_cast, simprocAttr, nadd1, nadd2, nadd3, nadd4, nadd5, nadd6, nadd7, nadd8, nadd9, nadd10, nadd11, nadd12, hjn, nw1, nw3, lw3, v3, u2, u3, u4, u5, u6, hsets, gg, z1, z2, z3, z4, z5, ↓uia_eq, z6, ↓uld_eq 146, z7, z8, z9, z10, z11, sc3s, al, decide_false, Bool.not_false, Bool.and_true]
      · -- it is taken
        have hput : putF (jF i) (sJ i d) = (0, addF (jF i) (sJ i d)) := by
          unfold putF
          rw [if_neg hbad, if_neg fun e => h3 (hjm.1 e.1).1]
        rw [hput] at eP fa4 eH3 eR3
        have hL3 : (addF (jF i) (sJ i d)).held = false := rfl
        simp only [hL3] at eH3
        have rv3 := row_rv H3 (addF (jF i) (sJ i d)).L
        have hG4 := row_good hG3 (addF (jF i) (sJ i d)).L
        have kr3 : Keeps H3 (H3 ++ rowJ (addF (jF i) (sJ i d)).L) none := keepsG hG4
        have fa4 := fa4.kept kr3
        obtain ⟨w3, hw3⟩ : ∃ w, rowV H3.length (addF (jF i) (sJ i d)).L = w := ⟨_, rfl⟩
        obtain ⟨H4, hH4⟩ : ∃ H, H3 ++ rowJ (addF (jF i) (sJ i d)).L = H := ⟨_, rfl⟩
        simp only at eR3
        rw [hw3, hH4] at eR3 rv3
        rw [hH4] at hG4 kr3 fa4
        have hl4 := kr3.2.1
        have kg4 := keepsT kg3 kr3
        have nw1 := rv1.na
        have nw3 := rv3.na
        have h3' : ¬ (3 : Int) ≤ (i : Int) := by omega
        have h3'' : (i : Int) < 3 := by omega
        have key : ∀ e : Int, 0 ≤ e → e ≤ 1099511637776 → ∃ (cd : Int) (ws6 : List Nat) (H6 : AHeap), W CP 34 [.ptr p 0, spA (a + 1) (1125899906842624 + a + 1 + e) (1125899906842624 + a + 11 + e)] (H4 ++ [⟨.tip false, .ints .i64 [a + 1, 1125899906842624 + a + 1 + e, 1125899906842624 + a + 11 + e]⟩]) = some (.int .i64 cd, H6, ws6) ∧ wadd g.length [] ws6 = [] := by
          intro e he0 he1
          have hG5 : Good (H4 ++ [⟨.tip false, .ints .i64 [a + 1, 1125899906842624 + a + 1 + e, 1125899906842624 + a + 11 + e]⟩]) := good_app hG4 rfl
          obtain ⟨C6, X6, ws6, hw6, eP6, nX6, fa6⟩ := put_c (s := (a + 1, 1125899906842624 + a + 1 + e, 1125899906842624 + a + 11 + e)) hG5 (fa4.app [⟨.tip false, .ints .i64 [a + 1, 1125899906842624 + a + 1 + e, 1125899906842624 + a + 11 + e]⟩]) (by omega)
          exact ⟨_, ws6, _, eP6, wadd_p hp0 hw6⟩
        have u2 : IntKind.i64.wrap (a + 1) = a + 1 := wr_i64 _ (by omega) (by omega)
        have u3 : IntKind.i64.wrap (1125899906842624 + a + 1) = 1125899906842624 + a + 1 := wr_i64 _ (by omega) (by omega)
        have u4 : IntKind.i64.wrap (1125899906842624 + a + 11) = 1125899906842624 + a + 11 := wr_i64 _ (by omega) (by omega)
        have u5 : IntKind.i64.wrap (1125899906842624 + a + 1 + d) = 1125899906842624 + a + 1 + d := wr_i64 _ (by omega) (by omega)
        have u6 : IntKind.i64.wrap (1125899906842624 + a + 11 + d) = 1125899906842624 + a + 11 + d := wr_i64 _ (by omega) (by omega)
        have hsets : ∀ (z : ABlk) (y : ABlk), (H4 ++ [y]).set H4.length z = H4 ++ [z] := fun z y => by
          rw [List.set_append_right _ _ (Nat.le_refl _), Nat.sub_self]; rfl
        have gg : ¬ H4.length < g.length := by have := kg4.2.1; omega
        cases ag with
        | false =>
          obtain ⟨cd, ws6, H6, z1, z2⟩ := key 0 (by decide) (by decide)
          simp only [Int.add_zero] at z1
          simp (maxDischargeDepth := 9) -implicitDefEqProofs only [push_cast, simprocAttr, nadd1, nadd2, nadd3, nadd4, nadd5, nadd6, nadd7, nadd8, nadd9, nadd10, nadd11, nadd12, hnl, v2', v3, v5, v6, hbt, wb1, wb2, wb3, eR1, nw1, eP, hw4', hH3, eH3, eR3, nw3, h3', h3'', u2, u3, u4, hsets, gg, z1, z2, al]
        | true =>
          obtain ⟨cd, ws6, H6, z1, z2⟩ := key d (by omega) (by omega)
          simp (maxDischargeDepth := 9) -implicitDefEqProofs only [push_cast, simprocAttr, nadd1, nadd2, nadd3, nadd4, nadd5, nadd6, nadd7, nadd8, nadd9, nadd10, nadd11, nadd12, hnl, v2', v3, v5, v6, hbt, wb1, wb2, wb3, eR1, nw1, eP, hw4', hH3, eH3, eR3, nw3, h3', h3'', u2, u3, u4, u5, u6, hsets, gg, z1, z2, al]
theorem fjumps_law (js : AHeap) (avs : List AV) (hx : Ext js) (ht : TyA (CP.gl ++ js) [.one (.i .u8), .one (.i .u64), .one .b] avs) : ∃ h' ws, W CP 9 avs (CP.gl ++ js) = some (.bool true, h', ws) := by
  simp only [TyA] at ht
  obtain ⟨a, _, rfl, ha, b, _, rfl, hb, c, _, rfl, hc, rfl⟩ := ht
  simp only [Ty] at ha hb hc
  obtain ⟨a, rfl, a0, a1⟩ := ha
  obtain ⟨b, rfl, b0, b1⟩ := hb
  obtain ⟨c, rfl⟩ := hc
  have e1 : IntKind.u64.min = 0 := rfl
  have e2 : IntKind.u64.max = 18446744073709551615 := rfl
  have e3 : IntKind.u8.min = 0 := rfl
  have e4 : IntKind.u8.max = 255 := rfl
  exact W_law (m := M9) (fun _ => rfl) rfl (fjumps_body (good_ext hx) (by omega) (by omega) (by omega) (by omega)) fun h0 => fjumps_body glG (by omega) (by omega) (by omega) (by omega)
theorem fjumps_kinds : aksOf X.P 20 [5, 27, 4] = some [.one (.i .u8), .one (.i .u64), .one .b] := by kernel_rfl
end Go.Proofs.YthcjmmngenogmaaW.AI.E
