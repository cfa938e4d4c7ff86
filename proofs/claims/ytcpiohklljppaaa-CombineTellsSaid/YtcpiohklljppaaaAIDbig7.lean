import Derived.Test.YtcpiohklljppaaaAIDbigA
namespace Go.Proofs.YtcpiohklljppaaaW.AI.D
open Go Go.Proofs.YtcpiohklljppaaaW.AI
set_option maxRecDepth 100000
set_option linter.unusedSimpArgs false
set_option linter.unusedVariables false
set_option linter.unusedSectionVars false
/-- One bit more: the rest, the digit. -/
theorem bit_step {X B r d bit Q : Int} (hB : 0 < B) (h0 : 0 ≤ r) (h1 : r < B) (hX : X = (Q + d) * B + r) (b0 : 0 ≤ bit) (b1 : bit ≤ 1) :
    (2 * r + bit < B → 2 * X + bit = (2 * Q + 2 * d) * B + (2 * r + bit)) ∧ (¬ 2 * r + bit < B → 2 * X + bit = (2 * Q + (2 * d + 1)) * B + (2 * r + bit - B) ∧ 2 * r + bit - B < B) := by
  constructor
  · intro h
    rw [hX]; grind
  · intro h
    refine ⟨by rw [hX]; grind, by omega⟩
/-- What a division of rows answers: the quotient, the rest. -/
def OverR (A B : Int) (n m : Nat) (H : AHeap) (r : AV) : Prop := ∃ q Q t T, r = .tup [q, t] ∧ UV H q Q ∧ UV H t T ∧ val Q = A / B ∧ val T = A % B ∧ Can Q ∧ Can T ∧ Q.length ≤ n ∧ T.length ≤ m
theorem OverR.up {A B : Int} {n m : Nat} (h js : AHeap) (r : AV) (b : OverR A B n m h r) : OverR A B n m (h ++ js) r := by
  obtain ⟨q, Q, t, T, e, u1, u2, p⟩ := b; exact ⟨q, Q, t, T, e, u1.app js, u2.app js, p⟩
theorem OverR.down {A B : Int} {n m : Nat} (h js : AHeap) (r : AV) (hv : r.lt h.length = true) (b : OverR A B n m (h ++ js) r) : OverR A B n m h r := by
  obtain ⟨q, Q, t, T, rfl, u1, u2, p⟩ := b
  simp only [AV.lt, AV.lts, Bool.and_eq_true] at hv
  exact ⟨q, Q, t, T, rfl, u1.down hv.1, u2.down hv.2.1, p⟩
theorem can_len {L : List Int} {m : Nat} (d : Dig L) (c : Can L) (h : val L < 65536 ^ m) : L.length ≤ m := by
  rcases Nat.lt_or_ge m L.length with e | e
  · have := val_low d c (by rintro rfl; simp at e)
    have h2 := pow_le (show m ≤ L.length - 1 by omega)
    omega
  · exact e
section
variable {h : AHeap} {a b : AV} {LA LB : List Int}
set_option maxHeartbeats 64000000 in
theorem Over_c (hg : Good h) (ua : UV h a LA) (ub : UV h b LB) (cB : Can LB) (hB : 0 < val LB) (hla : LA.length < 200) (hlb : LB.length < 200) :
    ∃ r js, W CP 83 [a, b] h = some (r, h ++ js, []) ∧ OverR (val LA) (val LB) LA.length LB.length (h ++ js) r ∧ Good (h ++ js) ∧ (r.lt h.length = true → js = []) := by
  refine W_any (m := M83) (fun g => UV g a LA ∧ UV g b LB) (OverR (val LA) (val LB) LA.length LB.length) (fun _ => rfl) rfl rfl gl_good (fun h0 => ?_) OverR.up OverR.down (fun g hg hi => ?_) hg ⟨ua, ub⟩
  · simp only [AV.lts, Bool.and_eq_true] at h0
    exact ⟨ua.gl h0.1, ub.gl h0.2.1⟩
  obtain ⟨ua, ub⟩ := hi
  have na := ua.na
  have nb := ub.na
  have la := ua.len
  have dA := ua.1
  have dB := ub.1
  obtain ⟨m, hm⟩ : ∃ m, LA.length = m := ⟨_, rfl⟩
  rw [hm] at la hla ⊢
  obtain ⟨B, hBB⟩ : ∃ B, val LB = B := ⟨_, rfl⟩
  rw [hBB] at hB ⊢
  have bB := val_bound dB
  rw [hBB] at bB
  have w0 : IntKind.i64.wrap ((m : Int) - 1) = (m : Int) - 1 := wr_i64 _ (by omega) (by omega)
  simp (maxDischargeDepth := 9) -implicitDefEqProofs only [push_cast, simprocAttr, M83, na, nb, la, w0]
  refine wp_kRes (wp_kSeq (wp_kBlock ?_))
  refine wp_loop (fun k X h' ws => ∃ (j : Nat) (q t : AV) (Q T : List Int), k = j + 1 ∧ j ≤ m ∧ X = [(0, a), (1, b), (6, q), (7, t), (8, .int .i64 ((j : Int) - 1))] ∧
      UV h' q Q ∧ UV h' t T ∧ val Q = val (LA.drop j) / B ∧ val T = val (LA.drop j) % B ∧ Can T ∧ Q.length = m - j ∧ Keeps g h' none ∧ ws = []) (m + 1) ?_ ?_
  · refine ⟨m, .nils, .nils, [], [], rfl, by omega, ?_, UV.nil _, UV.nil _, ?_, ?_, can_nil, by simp, Keeps.refl _ _, rfl⟩
    · simp (maxDischargeDepth := 9) -implicitDefEqProofs only [push_cast, simprocAttr, na, nb]; try rfl
    · rw [List.drop_of_length_le (by omega)]; simp [val]
    · rw [List.drop_of_length_le (by omega)]; simp [val]
  · rintro k XX h' ws ⟨j, q, t, Q, T, rfl, hj, rfl, uq, ut, hQ, hT, cT, lQ, kp, rfl⟩
    have nq := uq.na
    have nt := ut.na
    by_cases h0 : 0 < j
    · obtain ⟨i, rfl⟩ : ∃ i, j = i + 1 := ⟨j - 1, by omega⟩
      have hji : ((i + 1 : Nat) : Int) - 1 = (i : Int) := by omega
      have hge : (0 : Int) ≤ (i : Int) := by omega
      have w2 : IntKind.i64.wrap ((i : Int) - 1) = (i : Int) - 1 := wr_i64 _ (by omega) (by omega)
      have dx := datL_in dA i
      have hLx := datL_get (show i < LA.length by omega)
      have hcd := val_cons_drop (show i < LA.length by omega)
      obtain ⟨x, hx1⟩ : ∃ x, datL LA i = x := ⟨_, rfl⟩
      rw [hx1] at dx hLx hcd
      obtain ⟨U, hU⟩ : ∃ U, val (LA.drop (i + 1)) = U := ⟨_, rfl⟩
      rw [hU] at hQ hT hcd
      have hU0 : 0 ≤ U := by rw [← hU]; exact (val_bound (dA.drop _)).1
      obtain ⟨xn, hxn⟩ : ∃ n : Nat, x = (n : Int) := ⟨x.toNat, by omega⟩
      rw [hji]
      simp (maxDischargeDepth := 9) -implicitDefEqProofs only [push_cast, simprocAttr, nadd1, nadd2, nadd3, nadd4, nadd5, nadd6, nadd7, nadd8, nadd9, nadd10, nadd11, nadd12, hge, nq, nt]
      refine wp_kSeq (wp_kBlock (wp_kSeq (wp_kBlock ?_)))
      refine wp_loop (fun e X H ws => ∃ (p : Nat) (d : Int) (t' : AV) (T' : List Int), e = p + 1 ∧ p ≤ 16 ∧ X = [(0, a), (1, b), (6, q), (7, t'), (8, .int .i64 (i : Int)), (9, .int .u32 d), (10, .int .i64 ((p : Int) - 1))] ∧
        UV H t' T' ∧ Can T' ∧ 0 ≤ val T' ∧ val T' < B ∧ 0 ≤ d ∧ d < 2 ^ (16 - p) ∧ U * 2 ^ (16 - p) + x / 2 ^ p = (U / B * 2 ^ (16 - p) + d) * B + val T' ∧ Keeps h' H none ∧ ws = []) 17 ?_ ?_
      · refine ⟨16, 0, t, T, rfl, by omega, ?_, ut, cT, by rw [hT]; exact Int.emod_nonneg _ (by omega), by rw [hT]; exact Int.emod_lt_of_pos _ hB, by omega, by decide, ?_, Keeps.refl _ _, rfl⟩
        · simp (maxDischargeDepth := 9) -implicitDefEqProofs only [push_cast, simprocAttr, na, nb, nq, nt]; try rfl
        · have e : x / 2 ^ 16 = 0 := by omega
          have := Int.mul_ediv_add_emod U B
          rw [e, hT, Nat.sub_self]
          have e2 : U / B * B = B * (U / B) := Int.mul_comm _ _
          simp only [Int.pow_zero, Int.mul_one, Int.add_zero]
          omega
      · rintro e XX H ws ⟨p, d, t', T', rfl, hp, rfl, ut', cT', t0, t1, d0, d1, hinv, kH, rfl⟩
        have kgH := keepsT kp kH
        have hHg := kgH.2.2 hg
        have uaH := ua.keep (keepsN kgH)
        have ubH := ub.keep (keepsN kgH)
        have uqH := uq.keep (keepsN kH)
        have nt' := ut'.na
        by_cases hp0 : 0 < p
        · obtain ⟨s, rfl⟩ : ∃ s, p = s + 1 := ⟨p - 1, by omega⟩
          have hps : ((s + 1 : Nat) : Int) - 1 = (s : Int) := by omega
          have hges : (0 : Int) ≤ (s : Int) := by omega
          have w3 : IntKind.i64.wrap ((s : Int) - 1) = (s : Int) - 1 := wr_i64 _ (by omega) (by omega)
          have tl := can_len ut'.1 cT' (show val T' < 65536 ^ LB.length by omega)
          obtain ⟨v1, js1, e1, ⟨L1, u1, vL1, lL1, cL1⟩, hG1, _⟩ := plus_c hHg ut' ut' (by omega) (by omega)
          have k1 : Keeps H (H ++ js1) none := keepsG hG1
          obtain ⟨Z1, hZ1⟩ : ∃ Z1, H ++ js1 = Z1 := ⟨_, rfl⟩
          rw [hZ1] at e1 u1 hG1 k1
          have n1 := u1.na
          have ua1 := uaH.keep (keepsN k1)
          obtain ⟨bb, ea1, ea2, _⟩ := ua1.at hLx
          obtain ⟨bit, hbit⟩ : ∃ bit, x / 2 ^ s % 2 = bit := ⟨_, rfl⟩
          have hbb : 0 ≤ bit ∧ bit ≤ 1 := by omega
          have hx2 : x / 2 ^ s = 2 * (x / 2 ^ (s + 1)) + bit := by
            rw [Int.pow_succ, ← Int.ediv_ediv_of_nonneg (by have : (0 : Int) < 2 ^ s := Int.pow_pos (by decide); omega)]
            omega
          have hsh : x.fdiv (2 ^ s) = x / 2 ^ s := Int.fdiv_eq_ediv_of_nonneg _ (by have : (0 : Int) < 2 ^ s := Int.pow_pos (by decide); omega)
          have hq0 : 0 ≤ x / 2 ^ s := Int.ediv_nonneg dx.1 (by have : (0 : Int) < 2 ^ s := Int.pow_pos (by decide); omega)
          have hq1 : x / 2 ^ s ≤ x := Int.ediv_le_self _ dx.1
          obtain ⟨xs, hxs⟩ : ∃ xs, x / 2 ^ s = xs := ⟨_, rfl⟩
          rw [hxs] at hbit hx2 hsh hq0 hq1
          have ws1 : IntKind.u32.wrap xs = xs := wr_u32 _ (by omega) (by omega)
          have ms1 : Int.tmod xs 2 = bit := by rw [Int.tmod_eq_emod_of_nonneg (by omega)]; exact hbit
          have ws2 : IntKind.u32.wrap bit = bit := wr_u32 _ (by omega) (by omega)
          have hmin : min s 32 = s := by omega
          have hnn : ¬ (s : Int) < 0 := by omega
          -- the rest, with the bit
          obtain ⟨Z2, v2, L2, u2, vL2, cL2, lL2, hG2, k2, kind⟩ : ∃ (Z2 : AHeap) (v2 : AV) (L2 : List Int), UV Z2 v2 L2 ∧ val L2 = 2 * val T' + bit ∧ Can L2 ∧ L2.length ≤ LB.length + 2 ∧ Good Z2 ∧ Keeps Z1 Z2 none ∧
              ((bit = 1 ∧ W CP 84 [v1, .sl Z1.length 0 1 1] (Z1 ++ [⟨.tip false, .ints .u32 [1]⟩]) = some (v2, Z2, [])) ∨ (¬ bit = 1 ∧ True ∧ v2 = v1 ∧ Z2 = Z1)) := by
            by_cases hb1 : bit = 1
            · have hG1' : Good (Z1 ++ [⟨.tip false, .ints .u32 [1]⟩]) := good_app hG1 rfl
              have uone : UV (Z1 ++ [⟨.tip false, .ints .u32 [1]⟩]) (.sl Z1.length 0 1 1) [1] := ⟨Dig.one (by decide) (by decide), Or.inr ⟨Z1.length, 1, .tip false, [1], false, end_get4 _ _ _, Or.inr ⟨_, rfl⟩, Nat.le_refl _, rfl, Or.inl ⟨rfl, Nat.le_refl _⟩⟩⟩
              obtain ⟨v2, js2, e2, ⟨L2, u2, vL2, lL2, cL2⟩, hG2, _⟩ := plus_c hG1' (u1.app _) uone (by omega) (by simp)
              refine ⟨_, v2, L2, u2, ?_, cL2 (cL1 cT' cT') (by intro z hz; simp at hz; omega), ?_, hG2, keepsT (Keeps.app _ _ _ rfl) (keepsG hG2), Or.inl ⟨hb1, e2⟩⟩
              · rw [vL2, vL1, hb1]; simp [val]; omega
              · simp at lL2; omega
            · refine ⟨Z1, v1, L1, u1, ?_, cL1 cT' cT', by omega, hG1, Keeps.refl _ _, Or.inr ⟨hb1, trivial, rfl, rfl⟩⟩
              rw [vL1]; omega
          have n2 := u2.na
          have c2 := u2.cell
          obtain ⟨r3, js3, e3, ⟨v3, L3, rfl, u3, vL3, cL3, _⟩, hG3, _⟩ := trim_c (s := false) hG2 u2 (by omega)
          rw [Bool.false_and] at e3
          have k3 : Keeps Z2 (Z2 ++ js3) none := keepsG hG3
          obtain ⟨Z3, hZ3⟩ : ∃ Z3, Z2 ++ js3 = Z3 := ⟨_, rfl⟩
          rw [hZ3] at e3 u3 hG3 k3
          have n3 := u3.na
          have k03 := keepsT k1 (keepsT k2 k3)
          have ub3 := ubH.keep (keepsN k03)
          rw [vL2] at vL3
          have l3 := can_len u3.1 cL3 (show val L3 < 65536 ^ (LB.length + 1) by
            rw [vL3, Int.pow_succ]
            have hp := pow_pos' LB.length
            omega)
          have eL := Less_c hG3 u3 ub3 cL3 cB (by omega) (by omega)
          rw [vL3, hBB] at eL
          have hs16 : 16 - s = (16 - (s + 1)) + 1 := by omega
          have hbs := bit_step (X := U * 2 ^ (16 - (s + 1)) + x / 2 ^ (s + 1)) (B := B) (r := val T') (d := d) (bit := bit) (Q := U / B * 2 ^ (16 - (s + 1))) hB t0 t1 hinv hbb.1 hbb.2
          have hXX : U * 2 ^ (16 - s) + xs = 2 * (U * 2 ^ (16 - (s + 1)) + x / 2 ^ (s + 1)) + bit := by rw [hs16, Int.pow_succ, hx2]; grind
          have hPP : (2 : Int) ^ (16 - (s + 1)) ≤ 32768 := by
            have := Nat.pow_le_pow_right (show 0 < 2 by decide) (show 16 - (s + 1) ≤ 15 by omega)
            have e15 : (2 : Nat) ^ 15 = 32768 := by decide
            rw [show ((2 : Int) ^ (16 - (s + 1))) = ((2 ^ (16 - (s + 1)) : Nat) : Int) by push_cast; try rfl]
            omega
          have wd1 : IntKind.u32.wrap (d * 2) = d * 2 := wr_u32 _ (by omega) (by omega)
          have wd2 : IntKind.u32.wrap (d * 2 + 1) = d * 2 + 1 := wr_u32 _ (by omega) (by omega)
          have hd2 : (2 : Int) ^ (16 - s) = 2 * 2 ^ (16 - (s + 1)) := by rw [hs16, Int.pow_succ]; omega
          rw [hps]
          by_cases hlt : 2 * val T' + bit < B
          · rw [decide_eq_true hlt] at eL
            have hfin : U * 2 ^ (16 - s) + x / 2 ^ s = (U / B * 2 ^ (16 - s) + d * 2) * B + val L3 := by
              rw [hxs, hXX, hbs.1 hlt, vL3, hd2]; grind
            rcases kind with ⟨hb1, e2⟩ | ⟨hb1, e2, rfl, rfl⟩ <;> rcases u2.shape with rfl | ⟨_, _, _, rfl⟩ | ⟨_, _, _, rfl⟩
            all_goals
              simp (maxDischargeDepth := 9) -implicitDefEqProofs only [push_cast, simprocAttr, nadd1, nadd2, nadd3, nadd4, nadd5, nadd6, nadd7, nadd8, nadd9, nadd10, nadd11, nadd12, na, nb, nt', hges, e1, n1, ↓uia_eq, ea1, ↓uld_eq 27, ea2, hnn, hmin, Int.toNat_natCast, hsh, ws1, ms1, ws2, hb1, e2, n2, c2, e3, n3, eL, wd1, w3]
              refine loop_next (s + 1) (by omega) ⟨s, d * 2, v3, L3, rfl, by omega, ?_, u3, cL3, by omega, by omega, by omega, by omega, hfin, keepsT kH k03, rfl⟩
              simp (maxDischargeDepth := 9) -implicitDefEqProofs only [push_cast, simprocAttr, na, nb, nq]; try simp
          · rw [decide_eq_false hlt] at eL
            obtain ⟨hb2, hb3⟩ := hbs.2 hlt
            have hlen : LB.length ≤ L3.length := by
              rcases Nat.lt_or_ge L3.length LB.length with c | c
              · have := val_long dB cB u3.1 c; omega
              · exact c
            obtain ⟨v4, js4, e4, ⟨L4, u4, vL4, lL4⟩, hG4, _⟩ := less_c hG3 u3 ub3 (by omega) hlen (by omega)
            have k4 : Keeps Z3 (Z3 ++ js4) none := keepsG hG4
            obtain ⟨Z4, hZ4⟩ : ∃ Z4, Z3 ++ js4 = Z4 := ⟨_, rfl⟩
            rw [hZ4] at e4 u4 hG4 k4
            have n4 := u4.na
            have c4 := u4.cell
            obtain ⟨r5, js5, e5, ⟨v5, L5, rfl, u5, vL5, cL5, _⟩, hG5, _⟩ := trim_c (s := false) hG4 u4 (by omega)
            rw [Bool.false_and] at e5
            have k5 : Keeps Z4 (Z4 ++ js5) none := keepsG hG5
            obtain ⟨Z5, hZ5⟩ : ∃ Z5, Z4 ++ js5 = Z5 := ⟨_, rfl⟩
            rw [hZ5] at e5 u5 hG5 k5
            have n5 := u5.na
            have c3 := u3.cell
            rw [vL4, vL3, hBB] at vL5
            have hfin : U * 2 ^ (16 - s) + x / 2 ^ s = (U / B * 2 ^ (16 - s) + (d * 2 + 1)) * B + val L5 := by
              rw [hxs, hXX, hb2, vL5, hd2]; grind
            rcases kind with ⟨hb1, e2⟩ | ⟨hb1, e2, rfl, rfl⟩ <;> rcases u2.shape with rfl | ⟨_, _, _, rfl⟩ | ⟨_, _, _, rfl⟩ <;> rcases u4.shape with rfl | ⟨_, _, _, rfl⟩ | ⟨_, _, _, rfl⟩
            all_goals
              simp (maxDischargeDepth := 9) -implicitDefEqProofs only [push_cast, simprocAttr, nadd1, nadd2, nadd3, nadd4, nadd5, nadd6, nadd7, nadd8, nadd9, nadd10, nadd11, nadd12, na, nb, nt', hges, e1, n1, ↓uia_eq, ea1, ↓uld_eq 27, ea2, hnn, hmin, Int.toNat_natCast, hsh, ws1, ms1, ws2, hb1, e2, n2, c2, e3, n3, eL, wd1, wd2, e4, n4, c4, e5, n5, w3]
              refine loop_next (s + 1) (by omega) ⟨s, d * 2 + 1, v5, L5, rfl, by omega, ?_, u5, cL5, by omega, by omega, by omega, by omega, hfin, keepsT kH (keepsT k03 (keepsT k4 k5)), rfl⟩
              simp (maxDischargeDepth := 9) -implicitDefEqProofs only [push_cast, simprocAttr, na, nb, nq]; try simp
        · obtain rfl : p = 0 := by omega
          have hnl : ¬ (0 : Int) ≤ ((0 : Nat) : Int) - 1 := by decide
          rw [Nat.sub_zero, Int.pow_zero, Int.ediv_one] at hinv
          rw [Nat.sub_zero] at d1
          have e16 : (2 : Int) ^ 16 = 65536 := by decide
          rw [e16] at hinv d1
          have hdv : val (LA.drop i) / B = U / B * 65536 + d := by
            rw [hcd, show x + 65536 * U = (U / B * 65536 + d) * B + val T' by omega]
            rw [Int.add_comm, Int.add_mul_ediv_right _ _ (by omega), Int.ediv_eq_zero_of_lt t0 t1, Int.zero_add]
          have hmd : val (LA.drop i) % B = val T' := by
            rw [hcd, show x + 65536 * U = (U / B * 65536 + d) * B + val T' by omega]
            rw [Int.add_comm, Int.add_mul_emod_self_right, Int.emod_eq_of_lt t0 t1]
          have lq := uqH.len
          have nqH := uqH.na
          have hkb := keepsJ kgH [⟨.tip false, .ints .u32 [d]⟩] rfl
          have hnew := (uqH.app [⟨.tip false, .ints .u32 [d]⟩]).new
          have t0' : T4 (H ++ [⟨.tip false, .ints .u32 [d]⟩]) (.sl H.length 0 1 1) [d] g.length := Or.inr ⟨H.length, kgH.2.1, Or.inl ⟨rfl, end_get4 _ _ _⟩⟩
          obtain ⟨n, hn⟩ : ∃ n, Q.length = n := ⟨_, rfl⟩
          rw [hn] at lq
          obtain ⟨q2, H2, ws2, ea, t2, hw5, k2⟩ := app4 t0' hn (by simp; omega) hkb.2.1
          have kk : Keeps g H2 none := keepsO hg hkb k2 t0'.blk
          have u2 := t2.uv ((Dig.one d0 d1).app uq.1)
          have nq2 := u2.na
          have hwa : wadd g.length [] ws2 = [] := wadd_ge hw5
          have hloH : ¬ H.length < g.length := by have := kgH.2.1; omega
          have kH2 : Keeps H H2 none := keepsO hHg (Keeps.app H [⟨.tip false, .ints .u32 [d]⟩] none rfl) k2 (fun z e => by cases e; exact Nat.le_refl _)
          have ut2 := ut'.keep (keepsN kH2)
          have hvq : val ([d] ++ Q) = val (LA.drop i) / B := by
            rw [hdv, List.singleton_append]
            simp only [val]
            rw [hQ]; omega
          simp (maxDischargeDepth := 9) -implicitDefEqProofs only [push_cast, simprocAttr, nadd1, nadd2, nadd3, nadd4, nadd5, nadd6, nadd7, nadd8, nadd9, nadd10, nadd11, nadd12, hnl, nb, na, nqH, nt', lq, hnew, ea, hwa, nq2, hloH, w2]
          refine loop_next (i + 1) (by omega) ⟨i, q2, t', [d] ++ Q, T', rfl, by omega, ?_, u2, ut2, hvq, hmd.symm, cT', by simp; omega, kk, rfl⟩
          simp (maxDischargeDepth := 9) -implicitDefEqProofs only [push_cast, simprocAttr, na, nb, nt', nq2]; try simp
    · obtain rfl : j = 0 := by omega
      have hnl : ¬ (0 : Int) ≤ ((0 : Nat) : Int) - 1 := by decide
      rw [List.drop_zero] at hQ hT
      have hgh := kp.2.2 hg
      obtain ⟨r5, js5, e5, ⟨v5, L5, rfl, u5, vL5, cL5, lL5⟩, hG5, _⟩ := trim_c (s := false) hgh uq (by omega)
      rw [Bool.false_and] at e5
      have k5 : Keeps h' (h' ++ js5) none := keepsG hG5
      have ut5 := ut.app js5
      have n5 := u5.na
      have hres : OverR (val LA) B m LB.length (h' ++ js5) (.tup [v5, t]) := ⟨v5, L5, t, T, rfl, u5, ut5, by rw [vL5, hQ], hT, cL5, cT, by omega, can_len ut.1 cT (by
        have := Int.emod_lt_of_pos (val LA) hB
        omega)⟩
      have kF := keepsT kp k5
      rcases uq.shape with rfl | ⟨_, _, _, rfl⟩ | ⟨_, _, _, rfl⟩
      all_goals
        simp (maxDischargeDepth := 9) -implicitDefEqProofs only [push_cast, simprocAttr, nadd1, nadd2, nadd3, nadd4, nadd5, nadd6, nadd7, nadd8, nadd9, nadd10, nadd11, nadd12, hnl, nt, e5, n5]
        exact ⟨hres, kF⟩
end
end Go.Proofs.YtcpiohklljppaaaW.AI.D
