import Derived.Test.YtcpiohklljppaaaAIDbig7
namespace Go.Proofs.YtcpiohklljppaaaW.AI.D
open Go Go.Proofs.YtcpiohklljppaaaW.AI
set_option maxRecDepth 100000
set_option linter.unusedSimpArgs false
set_option linter.unusedVariables false
set_option linter.unusedSectionVars false
/-- What ref01.MulDiv answers. -/
def mdV (a b c : Int) (up : Bool) : AV := if c ≤ 0 then .tup [.int .i64 0, .int .i64 1] else toldV (decide (a * b < 0)) (aN (a * b) / c + if aN (a * b) % c = 0 ∨ decide (a * b < 0) = up then 0 else 1)
theorem toldV_lt (s : Bool) (V : Int) : AV.lt 0 (toldV s V) = true := by unfold toldV; split <;> rfl
theorem told_out (s : Bool) (V : Int) : ∃ z e : Int, toldV s V = .tup [.int .i64 z, .int .i64 e] := by unfold toldV; split <;> exact ⟨_, _, rfl⟩
theorem mdV_lt (a b c : Int) (up : Bool) : AV.lt 0 (mdV a b c up) = true := by
  unfold mdV; split
  · rfl
  · exact toldV_lt _ _
section
variable {h : AHeap}
set_option maxHeartbeats 16000000 in
theorem MulDiv_c {a b c : Int} {up : Bool} (hg : Good h) (a0 : -9223372036854775808 ≤ a) (a1 : a ≤ 9223372036854775807) (b0 : -9223372036854775808 ≤ b) (b1 : b ≤ 9223372036854775807) (c0 : -9223372036854775808 ≤ c) (c1 : c ≤ 9223372036854775807) :
    W CP 64 [.int .i64 a, .int .i64 b, .int .i64 c, .bool up] h = some (mdV a b c up, h, []) := by
  refine W_bothB (m := M64) (fun _ => True) (fun _ => rfl) rfl rfl (mdV_lt _ _ _ _) gl_good (fun _ => trivial) (fun g hg _ => ?_) hg trivial
  unfold mdV
  by_cases hc : c ≤ 0
  · rw [if_pos hc]
    simp (maxDischargeDepth := 9) -implicitDefEqProofs only [push_cast, simprocAttr, M64, hc]
    exact quietB
  rw [if_neg hc]
  obtain ⟨_, j1, e1, ⟨v1, L1, rfl, u1, w1, C1, l1⟩, hG1, _⟩ := Of_c a0 a1 hg
  have k1 : Keeps g (g ++ j1) none := keepsG hG1
  obtain ⟨H1, hH1⟩ : ∃ H, g ++ j1 = H := ⟨_, rfl⟩
  rw [hH1] at e1 u1 hG1 k1
  obtain ⟨_, j2, e2, ⟨v2, L2, rfl, u2, w2, C2, l2⟩, hG2, _⟩ := Of_c b0 b1 hG1
  have k2 : Keeps H1 (H1 ++ j2) none := keepsG hG2
  have u1' := u1.app j2
  obtain ⟨H2, hH2⟩ : ∃ H, H1 ++ j2 = H := ⟨_, rfl⟩
  rw [hH2] at e2 u2 hG2 k2 u1'
  obtain ⟨_, j3, e3, ⟨x, X, rfl, ux, wX, CX, lX⟩, hG3, _⟩ := Times_c hG2 (⟨v1, L1, rfl, u1', w1, C1, l1⟩ : BigS a 4 H2 _) (⟨v2, L2, rfl, u2, w2, C2, l2⟩ : BigS b 4 H2 _) (by decide) (by decide)
  have k3 : Keeps H2 (H2 ++ j3) none := keepsG hG3
  obtain ⟨H3, hH3⟩ : ∃ H, H2 ++ j3 = H := ⟨_, rfl⟩
  rw [hH3] at e3 ux hG3 k3
  obtain ⟨pa, hpa⟩ : ∃ p, decide (a < 0) = p := ⟨_, rfl⟩
  obtain ⟨pb, hpb⟩ : ∃ p, decide (b < 0) = p := ⟨_, rfl⟩
  rw [hpa] at e1 e3
  rw [hpb] at e2 e3
  obtain ⟨S, hS⟩ : ∃ S, a * b = S := ⟨_, rfl⟩
  rw [hS] at e3 wX ⊢
  obtain ⟨p, hp⟩ : ∃ p, decide (S < 0) = p := ⟨_, rfl⟩
  rw [hp] at e3 ⊢
  clear hpa hpb hp hS
  have S0 := aN_pos S
  obtain ⟨A, hA⟩ : ∃ A, aN S = A := ⟨_, rfl⟩
  rw [hA] at wX S0 ⊢
  -- the product's block
  obtain ⟨Y, hY⟩ : ∃ Y, H3 ++ [ABlk.new (.vals [.bool false, .nils])] = Y := ⟨_, rfl⟩
  have kY : Keeps H3 Y none := by rw [← hY]; exact Keeps.app H3 [⟨.tip false, .vals [.bool false, .nils]⟩] none rfl
  have bY : Y[H3.length]? = some ⟨.tip false, .vals [.bool false, .nils]⟩ := by rw [← hY]; exact end_get4 _ _ _
  have uY := ux.keep (keepsN kY)
  have lY := (List.getElem?_eq_some_iff.1 bY).1
  obtain ⟨H4, hH4⟩ : ∃ H, Y.set H3.length ⟨.tip false, .vals [.bool p, x]⟩ = H := ⟨_, rfl⟩
  have k4 : Keeps H3 H4 none := by rw [← hH4]; exact keepsS kY (Nat.le_refl _) rfl
  have b4 : H4[H3.length]? = some ⟨.tip false, .vals [.bool p, x]⟩ := by rw [← hH4]; exact List.getElem?_set_self lY
  have u4 : UV H4 x X := by rw [← hH4]; exact UV.setv bY uY
  have l4 := (List.getElem?_eq_some_iff.1 b4).1
  have lo4 : ¬ H4.length ≤ H3.length := by omega
  have hG4 := k4.2.2 hG3
  -- the divisor
  obtain ⟨_, j5, e5, ⟨y, LY, rfl, uy, wy, CY, ly⟩, hG5, _⟩ := Of_c (z := c) c0 c1 hG4
  have hcn : ¬ c < 0 := by omega
  rw [if_neg hcn] at wy
  rw [decide_eq_false hcn] at e5
  have k5 : Keeps H4 (H4 ++ j5) none := keepsG hG5
  obtain ⟨H5, hH5⟩ : ∃ H, H4 ++ j5 = H := ⟨_, rfl⟩
  rw [hH5] at e5 uy hG5 k5
  have u5 := u4.keep (keepsN k5)
  have b5 := keepsN k5 _ _ b4
  have l5 := (List.getElem?_eq_some_iff.1 b5).1
  obtain ⟨_, j6, e6, ⟨q, Q, t, T, rfl, uq, ut, wq, wt, CQ, CT, lQ, lT⟩, hG6, _⟩ := Over_c hG5 u5 uy CY (by omega) (by omega) (by omega)
  rw [wX, wy] at wq wt
  have k6 : Keeps H5 (H5 ++ j6) none := keepsG hG6
  obtain ⟨H6, hH6⟩ : ∃ H, H5 ++ j6 = H := ⟨_, rfl⟩
  rw [hH6] at e6 uq ut hG6 k6
  have b6 := keepsN k6 _ _ b5
  have l6 := (List.getElem?_eq_some_iff.1 b6).1
  have kk : Keeps g H6 none := keepsT k1 (keepsT k2 (keepsT k3 (keepsT k4 (keepsT k5 k6))))
  have n1 := u1.na
  have i1 := u1.cell
  have n2 := u2.na
  have i2 := u2.cell
  have nx := ux.na
  have ix := ux.cell
  have ny := uy.na
  have iy := uy.cell
  have nq := uq.na
  have iq := uq.cell
  have nt := ut.na
  have it := ut.cell
  have lt := ut.len
  obtain ⟨m, hm⟩ : ∃ m, T.length = m := ⟨_, rfl⟩
  have lo3 : ¬ H3.length < g.length := by have := (keepsT k1 (keepsT k2 k3)).2.1; omega
  rw [hm] at lt
  by_cases hT : 0 < m
  · have hT' : (0 : Int) < (m : Int) := by omega
    have hlow := val_low ut.1 CT (by rintro rfl; simp at hm; omega)
    have hpp := pow_pos' (T.length - 1)
    have hnz : ¬ A % c = 0 := by omega
    by_cases hpu : p = up
    · subst hpu
      have eT := told_c (s := p) hG6 uq (by omega)
      rw [wq] at eT
      rw [if_pos (Or.inr rfl), Int.add_zero]
      obtain ⟨z, e, hz⟩ := told_out p (A / c)
      rw [hz] at eT ⊢
      obtain ⟨js, hj⟩ := kk.behind
      cases p <;> rcases uq.shape with rfl | ⟨_, _, _, rfl⟩ | ⟨_, _, _, rfl⟩
      all_goals
        simp (maxDischargeDepth := 9) -implicitDefEqProofs only [push_cast, simprocAttr, M64, nadd1, nadd2, nadd3, nadd4, nadd5, nadd6, nadd7, nadd8, nadd9, nadd10, nadd11, nadd12, hc, e1, n1, i1, e2, n2, i2, e3, nx, ix, hY, hH4, bY, lY, b4, l4, lo4, lo3, e5, ny, iy, e6, nq, iq, nt, it, lt, hT', b6, l6, eT, decide_false, Bool.not_false, Bool.and_true]
        exact ⟨rfl, ⟨js, hj⟩, rfl⟩
    · have hG6' : Good (H6 ++ [⟨.tip false, .ints .u32 [1]⟩]) := good_app hG6 rfl
      have uone : UV (H6 ++ [⟨.tip false, .ints .u32 [1]⟩]) (.sl H6.length 0 1 1) [1] := ⟨Dig.one (by decide) (by decide), Or.inr ⟨H6.length, 1, .tip false, [1], false, end_get4 _ _ _, Or.inr ⟨_, rfl⟩, Nat.le_refl _, rfl, Or.inl ⟨rfl, Nat.le_refl _⟩⟩⟩
      obtain ⟨q2, j7, e7, ⟨Q2, uq2, wq2, lq2, _⟩, hG7, _⟩ := plus_c hG6' (uq.app _) uone (by omega) (by decide)
      have k7 : Keeps H6 ((H6 ++ [⟨.tip false, .ints .u32 [1]⟩]) ++ j7) none := keepsT (Keeps.app _ _ _ rfl) (keepsG hG7)
      obtain ⟨H7, hH7⟩ : ∃ H, (H6 ++ [(⟨.tip false, .ints .u32 [1]⟩ : ABlk)]) ++ j7 = H := ⟨_, rfl⟩
      rw [hH7] at e7 uq2 hG7 k7
      have b7 := keepsN k7 _ _ b6
      have l7 := (List.getElem?_eq_some_iff.1 b7).1
      have eT := told_c (s := p) hG7 uq2 (by simp at lq2; omega)
      have h1 : val [1] = 1 := by simp [val]
      rw [wq2, wq, h1] at eT
      rw [if_neg (by rintro (e | e); exact hnz e; exact hpu e)]
      obtain ⟨z, e, hz⟩ := told_out p (A / c + 1)
      rw [hz] at eT ⊢
      obtain ⟨js, hj⟩ := (keepsT kk k7).behind
      have n7 := uq2.na
      have i7 := uq2.cell
      cases p <;> cases up <;> first | exact absurd rfl hpu | rcases uq2.shape with rfl | ⟨_, _, _, rfl⟩ | ⟨_, _, _, rfl⟩
      all_goals
        simp (maxDischargeDepth := 9) -implicitDefEqProofs only [push_cast, simprocAttr, M64, nadd1, nadd2, nadd3, nadd4, nadd5, nadd6, nadd7, nadd8, nadd9, nadd10, nadd11, nadd12, hc, e1, n1, i1, e2, n2, i2, e3, nx, ix, hY, hH4, bY, lY, b4, l4, lo4, lo3, e5, ny, iy, e6, nq, iq, nt, it, lt, hT', b6, l6, e7, n7, i7, b7, l7, eT, decide_false, Bool.not_false, Bool.and_true]
        exact ⟨rfl, ⟨js, hj⟩, rfl⟩
  · have hT' : ¬ (0 : Int) < (m : Int) := by omega
    obtain rfl : T = [] := List.eq_nil_of_length_eq_zero (by omega)
    have hz : A % c = 0 := by rw [← wt]; rfl
    have eT := told_c (s := p) hG6 uq (by omega)
    rw [wq] at eT
    rw [if_pos (Or.inl hz), Int.add_zero]
    obtain ⟨z, e, hz'⟩ := told_out p (A / c)
    rw [hz'] at eT ⊢
    obtain ⟨js, hj⟩ := kk.behind
    rcases uq.shape with rfl | ⟨_, _, _, rfl⟩ | ⟨_, _, _, rfl⟩
    all_goals
      simp (maxDischargeDepth := 9) -implicitDefEqProofs only [push_cast, simprocAttr, M64, nadd1, nadd2, nadd3, nadd4, nadd5, nadd6, nadd7, nadd8, nadd9, nadd10, nadd11, nadd12, hc, e1, n1, i1, e2, n2, i2, e3, nx, ix, hY, hH4, bY, lY, b4, l4, lo4, lo3, e5, ny, iy, e6, nq, iq, nt, it, lt, hT', b6, l6, eT, decide_false, Bool.not_false, Bool.and_true]
      exact ⟨rfl, ⟨js, hj⟩, rfl⟩
end
end Go.Proofs.YtcpiohklljppaaaW.AI.D
