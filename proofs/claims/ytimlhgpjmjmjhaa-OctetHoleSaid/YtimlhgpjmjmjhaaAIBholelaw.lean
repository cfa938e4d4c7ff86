import Derived.Test.YtimlhgpjmjmjhaaAIBhole
namespace Go.Proofs.YtimlhgpjmjmjhaaW.AI.B
open Go Go.Proofs.YtimlhgpjmjmjhaaW.AI Go.Proofs.YtimlhgpjmjmjhaaW.AI.Oct
set_option maxRecDepth 100000
set_option linter.unusedSimpArgs false
set_option linter.unusedVariables false
set_option linter.unusedSectionVars false

set_option maxHeartbeats 8000000 in
theorem hole_sl (g : AHeap) (hg : Good g) (q N cap : Nat) (zs : List Int) (hN : zs.length = N) (hcap : N ≤ cap) (hb0 : BytAt g (.sl q 0 N cap) zs) (z n t : Int) (hz : 0 ≤ z ∧ z ≤ 255) (hn : 0 ≤ n ∧ n < 18446744073709551616) (ht : 0 ≤ t ∧ t ≤ 255) :
    Wp (xbody (W CP) M11 [.sl q 0 N cap, .agg [.int .u8 z, .int .u64 n], .int .u8 t] g) fun r => r.1 = .bool true := by
  obtain ⟨m, hmm, hmn, hm200⟩ : ∃ m : Nat, (if (200 : Int) < (N : Int) then (200 : Int) else (N : Int)) = (m : Int) ∧ m ≤ N ∧ m ≤ 200 := by
    by_cases h : 200 < N
    · exact ⟨200, by rw [if_pos (by omega)]; rfl, by omega, by omega⟩
    · exact ⟨N, by rw [if_neg (by omega)], by omega, by omega⟩
  have hna : m ≤ cap := by omega
  obtain ⟨l, hl⟩ : ∃ l, (zs.drop 0).take m = l := ⟨_, rfl⟩
  have hb1 : BytAt g (.sl q 0 m cap) l := by have := hb0.part 0 m (by omega); rw [hl] at this; simpa using this
  have hlm : l.length = m := by rw [← hl]; simp; omega
  have XS : slen (.sl q 0 m cap) = some m := rfl
  have z1 : IntKind.i64.wrap (z.tmod 8) = z % 8 := by rw [Int.tmod_eq_emod_of_nonneg hz.1]; exact wr_i64 _ (by omega) (by omega)
  obtain ⟨k, hk⟩ : ∃ k : Nat, 1 + z % 8 = (k : Int) := ⟨(1 + z % 8).toNat, by omega⟩
  have k1 : 1 ≤ k := by omega
  have k8 : k ≤ 8 := by omega
  have z2 : IntKind.i64.wrap (1 + z % 8) = (k : Int) := by rw [hk]; exact wr_i64 _ (by omega) (by omega)
  have a1 : IntKind.i64.wrap t = t := wr_i64 _ (by omega) (by omega)
  have a2 : IntKind.i64.wrap ((m : Int) + 2) = (m : Int) + 2 := wr_i64 _ (by omega) (by omega)
  have a3 : ¬ (m : Int) + 2 = 0 := by omega
  obtain ⟨p, hp⟩ : ∃ p : Nat, t % ((m : Int) + 2) = (p : Int) := ⟨(t % ((m : Int) + 2)).toNat, by have := Int.emod_nonneg t (show (m : Int) + 2 ≠ 0 by omega); omega⟩
  have a4 : t.tmod ((m : Int) + 2) = (p : Int) := by rw [Int.tmod_eq_emod_of_nonneg ht.1, hp]
  have hpm : p ≤ m + 1 := by have := Int.emod_lt_of_pos t (show (0 : Int) < (m : Int) + 2 by omega); omega
  obtain ⟨s, hs⟩ : ∃ s, 8 * k = s := ⟨_, rfl⟩
  have s1 : IntKind.i64.wrap (8 * (k : Int)) = (s : Int) := by rw [wr_i64 _ (by omega) (by omega)]; omega
  have s2 : min s 64 = s := by omega
  have s0 : ¬ (s : Int) < 0 := by omega
  obtain ⟨u, hu⟩ : ∃ u, p + k = u := ⟨_, rfl⟩
  have u1 : IntKind.i64.wrap ((p : Int) + (k : Int)) = (u : Int) := by rw [wr_i64 _ (by omega) (by omega)]; omega
  obtain ⟨bx, hbx⟩ : ∃ bx : ABlk, bx = ⟨.tip false, .vals [.int .u8 z, .int .u64 n]⟩ := ⟨_, rfl⟩
  have hG : Good (g ++ [⟨.tip false, .vals [.int .u8 z, .int .u64 n]⟩]) := good_app hg rfl
  have hn1 : n < 18446744073709551616 := hn.2
  obtain ⟨y, hy⟩ : ∃ y, n.fdiv (2 ^ s) = y := ⟨_, rfl⟩
  have hy2 : y = n / 256 ^ k := by rw [← hy, Int.fdiv_eq_ediv_of_nonneg _ (by rw [← hs, pow256]; exact Int.le_of_lt (Int.pow_pos (by omega))), ← hs, pow256]
  by_cases hv : n < 256 ^ k
  · have y0 : y = 0 := by rw [hy2]; exact Int.ediv_eq_zero_of_lt hn.1 hv
    rw [y0] at hy
    by_cases hin : m < p + k
    · have e46 := c46_short (h := (g ++ [⟨BSt.tip false, .vals [.int .u8 z, .int .u64 n]⟩])) (p := p) hG XS (by omega) hn.1 hn1 hv k1 k8 hin
      have e44 := c44_out (h := (g ++ [⟨BSt.tip false, .vals [.int .u8 z, .int .u64 n]⟩])) (p := p) hG XS (by omega) hin k1 k8
      have hmu : (m : Int) < (u : Int) := by omega
      by_cases hk8 : k = 8
      · have hk8' : ¬ (k : Int) < 8 := by omega
        simp (maxDischargeDepth := 9) -implicitDefEqProofs only [push_cast, reduceIte, Nat.reduceEqDiff, Nat.reduceAdd, Nat.reduceSub, Nat.reduceMul, Nat.reduceDiv, Nat.reduceMod, Nat.reduceLT, Nat.reduceLeDiff, Nat.reduceBEq, Nat.reduceBNe, reduceCtorEq, Int.reduceEq, Int.reduceNe, Int.reduceLT, Int.reduceLE, Int.reduceToNat, Int.reduceNeg, Int.reduceAdd, Int.reduceSub, Int.reduceMul, Int.reducePow, Nat.reducePow, Int.reduceBEq, M11, hna, hmm, z1, z2, a1, a2, a3, a4, s0, s1, s2, u1, e46, e44, hmu, hk8', p43]
      · have hk8' : (k : Int) < 8 := by omega
        simp (maxDischargeDepth := 9) -implicitDefEqProofs only [push_cast, reduceIte, Nat.reduceEqDiff, Nat.reduceAdd, Nat.reduceSub, Nat.reduceMul, Nat.reduceDiv, Nat.reduceMod, Nat.reduceLT, Nat.reduceLeDiff, Nat.reduceBEq, Nat.reduceBNe, reduceCtorEq, Int.reduceEq, Int.reduceNe, Int.reduceLT, Int.reduceLE, Int.reduceToNat, Int.reduceNeg, Int.reduceAdd, Int.reduceSub, Int.reduceMul, Int.reducePow, Nat.reducePow, Int.reduceBEq, M11, hna, hmm, z1, z2, a1, a2, a3, a4, s0, s1, s2, u1, e46, e44, hmu, hk8', hy, p43]
    · have hin' : p + k ≤ l.length := by omega
      have hmu : ¬ (m : Int) < (u : Int) := by omega
      have hX := hb1.app [⟨BSt.tip false, .vals [.int .u8 z, .int .u64 n]⟩]
      have fx : Form (.sl q 0 m cap) l.length := Or.inl ⟨q, 0, cap, by rw [hlm], by omega⟩
      have hdl : (dg k n).length = k := dg_len k n
      obtain ⟨sp, hsp⟩ : ∃ sp, splice l p (dg k n) = sp := ⟨_, rfl⟩
      have spl : sp.length = m := by rw [← hsp, splice_len (by omega), hlm]
      have spb : Byt sp := by rw [← hsp]; exact hb1.2.2.splice (dg_byt k n) p
      have e46 : W CP 46 [.sl q 0 m cap, .int .i64 (p : Int), .int .i64 (k : Int), .int .u64 n] (g ++ [⟨.tip false, .vals [.int .u8 z, .int .u64 n]⟩]) = some (.tup [.gsl (g.length + 2) 0 m 1 false, .int .i64 0], g ++ [⟨.tip false, .vals [.int .u8 z, .int .u64 n]⟩, ⟨.tip false, .ints .u8 []⟩, ⟨.tip false, .ints .u8 sp⟩], []) := by
        rw [c46 hG hX fx (by omega) hn.1 hn1 hv k1 k8 hin', hsp, hlm]; simp
      have hG2 : Good (g ++ [⟨.tip false, .vals [.int .u8 z, .int .u64 n]⟩, ⟨.tip false, .ints .u8 []⟩, ⟨.tip false, .ints .u8 sp⟩]) := good_app hg rfl
      have hb2 := hb1.app [⟨BSt.tip false, .vals [.int .u8 z, .int .u64 n]⟩, ⟨.tip false, .ints .u8 []⟩, ⟨.tip false, .ints .u8 sp⟩]
      have hx2 : BytAt (g ++ [⟨BSt.tip false, .vals [.int .u8 z, .int .u64 n]⟩, ⟨.tip false, .ints .u8 []⟩, ⟨.tip false, .ints .u8 sp⟩]) (.gsl (g.length + 2) 0 m 1 false) sp := by
        have := BytAt.made (h := g ++ [⟨BSt.tip false, .vals [.int .u8 z, .int .u64 n]⟩, ⟨.tip false, .ints .u8 []⟩, ⟨.tip false, .ints .u8 sp⟩]) (b := g.length + 2) (l := sp) (by rw [List.getElem?_append_right (by omega)]; simp) spb
        rwa [spl] at this
      have e44 := c44_in hG2 hb2 fx (by omega) hin' k1 k8
      obtain ⟨was, hwas⟩ : ∃ w, be ((l.drop p).take k) = w := ⟨_, rfl⟩
      rw [hwas] at e44
      have hwl : ((l.drop p).take k).length = k := by simp; omega
      have hwb := be_bound (hb1.2.2.sub p k)
      rw [hwl, hwas] at hwb
      have hk256 : (256 : Int) ^ k ≤ 18446744073709551616 := by
        have h1 : (256 : Nat) ^ k ≤ 256 ^ 8 := Nat.pow_le_pow_right (by omega) k8
        have h2 : ((256 ^ k : Nat) : Int) ≤ ((256 ^ 8 : Nat) : Int) := Int.ofNat_le.2 h1
        rw [Int.natCast_pow] at h2
        exact h2
      have fx2 : Form (.gsl (g.length + 2) 0 m 1 false) sp.length := Or.inr ⟨_, 0, by rw [spl]⟩
      have e44x := c44_in hG2 hx2 fx2 (by omega) (by omega : p + k ≤ sp.length) k1 k8
      have hnow : be ((sp.drop p).take k) = n := by
        have h1 := splice_at (l := l) (xs := dg k n) (o := p) (by omega)
        rw [hsp, hdl] at h1
        rw [h1, be_dg k n hn.1 hv]
      rw [hnow] at e44x
      have hback : splice sp p (dg k was) = l := by
        have h1 := splice_back (l := l) (xs := dg k n) (o := p) (by omega)
        rw [hsp, hdl] at h1
        have h2 := dg_be (hb1.2.2.sub p k)
        rw [hwl, hwas] at h2
        rw [h2]; exact h1
      have e46b : W CP 46 [.gsl (g.length + 2) 0 m 1 false, .int .i64 (p : Int), .int .i64 (k : Int), .int .u64 was] (g ++ [⟨.tip false, .vals [.int .u8 z, .int .u64 n]⟩, ⟨.tip false, .ints .u8 []⟩, ⟨.tip false, .ints .u8 sp⟩]) =
          some (.tup [.gsl (g.length + 4) 0 m 1 false, .int .i64 0], g ++ [⟨.tip false, .vals [.int .u8 z, .int .u64 n]⟩, ⟨.tip false, .ints .u8 []⟩, ⟨.tip false, .ints .u8 sp⟩, ⟨.tip false, .ints .u8 []⟩, ⟨.tip false, .ints .u8 l⟩], []) := by
        rw [c46 hG2 hx2 fx2 (by omega) hwb.1 (by omega) hwb.2 k1 k8 (by omega), hback, spl]; simp
      have hG3 : Good (g ++ [⟨.tip false, .vals [.int .u8 z, .int .u64 n]⟩, ⟨.tip false, .ints .u8 []⟩, ⟨.tip false, .ints .u8 sp⟩, ⟨.tip false, .ints .u8 []⟩, ⟨.tip false, .ints .u8 l⟩]) := good_app hg rfl
      have hb3 := hb1.app [⟨BSt.tip false, .vals [.int .u8 z, .int .u64 n]⟩, ⟨.tip false, .ints .u8 []⟩, ⟨.tip false, .ints .u8 sp⟩, ⟨.tip false, .ints .u8 []⟩, ⟨.tip false, .ints .u8 l⟩]
      have hx3 : BytAt (g ++ [⟨BSt.tip false, .vals [.int .u8 z, .int .u64 n]⟩, ⟨.tip false, .ints .u8 []⟩, ⟨.tip false, .ints .u8 sp⟩, ⟨.tip false, .ints .u8 []⟩, ⟨.tip false, .ints .u8 l⟩]) (.gsl (g.length + 2) 0 m 1 false) sp := by
        have := hx2.app [⟨BSt.tip false, .ints .u8 []⟩, ⟨.tip false, .ints .u8 l⟩]
        simpa using this
      have hy3 : BytAt (g ++ [⟨BSt.tip false, .vals [.int .u8 z, .int .u64 n]⟩, ⟨.tip false, .ints .u8 []⟩, ⟨.tip false, .ints .u8 sp⟩, ⟨.tip false, .ints .u8 []⟩, ⟨.tip false, .ints .u8 l⟩]) (.gsl (g.length + 4) 0 m 1 false) l := by
        have := BytAt.made (h := g ++ [⟨BSt.tip false, .vals [.int .u8 z, .int .u64 n]⟩, ⟨.tip false, .ints .u8 []⟩, ⟨.tip false, .ints .u8 sp⟩, ⟨.tip false, .ints .u8 []⟩, ⟨.tip false, .ints .u8 l⟩]) (b := g.length + 4) (l := l) (by rw [List.getElem?_append_right (by omega)]; simp) hb1.2.2
        rwa [hlm] at this
      have q1 := hx3.partg 0 p (by omega)
      have q2 := hb3.part 0 p (by omega)
      have hlow : (sp.drop 0).take p = (l.drop 0).take p := by
        have h1 := splice_low (l := l) (xs := dg k n) (o := p) (by omega)
        rw [hsp] at h1
        simpa using h1
      rw [hlow] at q1
      have q3 := hx3.partg u (m - u) (by omega)
      have q4 := hb3.part u (m - u) (by omega)
      have hhigh : sp.drop u = l.drop u := by
        have h1 := splice_high (l := l) (xs := dg k n) (o := p) (by omega)
        rw [hsp, hdl, hu] at h1
        exact h1
      rw [hhigh] at q3
      have e41a := c41 hG3 q1 q2
      have e41b := c41 hG3 q3 q4
      have e41c := c41 hG3 hy3 hb3
      simp only [Nat.zero_add, Nat.add_zero, Nat.sub_zero] at e41a e41b
      have u2 : u ≤ m := by omega
      have u3 : u ≤ cap := by omega
      have p2 : p ≤ m := by omega
      have p3 : p ≤ cap := by omega
      by_cases hk8 : k = 8
      · have hk8' : ¬ (k : Int) < 8 := by omega
        simp (maxDischargeDepth := 9) -implicitDefEqProofs only [push_cast, reduceIte, Nat.reduceEqDiff, Nat.reduceAdd, Nat.reduceSub, Nat.reduceMul, Nat.reduceDiv, Nat.reduceMod, Nat.reduceLT, Nat.reduceLeDiff, Nat.reduceBEq, Nat.reduceBNe, reduceCtorEq, Int.reduceEq, Int.reduceNe, Int.reduceLT, Int.reduceLE, Int.reduceToNat, Int.reduceNeg, Int.reduceAdd, Int.reduceSub, Int.reduceMul, Int.reducePow, Nat.reducePow, Int.reduceBEq, M11, hna, hmm, z1, z2, a1, a2, a3, a4, s0, s1, s2, u1, e46, e44, e44x, e46b, e41a, e41b, e41c, u2, u3, p2, p3, hmu, hk8', p43]
      · have hk8' : (k : Int) < 8 := by omega
        simp (maxDischargeDepth := 9) -implicitDefEqProofs only [push_cast, reduceIte, Nat.reduceEqDiff, Nat.reduceAdd, Nat.reduceSub, Nat.reduceMul, Nat.reduceDiv, Nat.reduceMod, Nat.reduceLT, Nat.reduceLeDiff, Nat.reduceBEq, Nat.reduceBNe, reduceCtorEq, Int.reduceEq, Int.reduceNe, Int.reduceLT, Int.reduceLE, Int.reduceToNat, Int.reduceNeg, Int.reduceAdd, Int.reduceSub, Int.reduceMul, Int.reducePow, Nat.reducePow, Int.reduceBEq, M11, hna, hmm, z1, z2, a1, a2, a3, a4, s0, s1, s2, u1, e46, e44, e44x, e46b, e41a, e41b, e41c, u2, u3, p2, p3, hmu, hk8', hy, p43]
  · have hk8 : k < 8 := by
      rcases Nat.lt_or_ge k 8 with h | h
      · exact h
      · have : k = 8 := by omega
        subst this
        exact absurd hn1 (by simpa using hv)
    have hk8' : (k : Int) < 8 := by omega
    have y0 : ¬ y = 0 := by
      intro h0
      rw [hy2] at h0
      have hp : (0 : Int) < 256 ^ k := Int.pow_pos (by omega)
      have := Int.lt_ediv_add_one_mul_self n hp
      rw [h0] at this
      omega
    have e46 := c46_range (h := (g ++ [⟨BSt.tip false, .vals [.int .u8 z, .int .u64 n]⟩])) (p := p) hG XS hn.1 hn1 hv k1 k8
    by_cases hin : m < p + k
    · have e44 := c44_out (h := (g ++ [⟨BSt.tip false, .vals [.int .u8 z, .int .u64 n]⟩])) (p := p) hG XS (by omega) hin k1 k8
      simp (maxDischargeDepth := 9) -implicitDefEqProofs only [push_cast, reduceIte, Nat.reduceEqDiff, Nat.reduceAdd, Nat.reduceSub, Nat.reduceMul, Nat.reduceDiv, Nat.reduceMod, Nat.reduceLT, Nat.reduceLeDiff, Nat.reduceBEq, Nat.reduceBNe, reduceCtorEq, Int.reduceEq, Int.reduceNe, Int.reduceLT, Int.reduceLE, Int.reduceToNat, Int.reduceNeg, Int.reduceAdd, Int.reduceSub, Int.reduceMul, Int.reducePow, Nat.reducePow, Int.reduceBEq, M11, hna, hmm, z1, z2, a1, a2, a3, a4, s0, s1, s2, u1, e46, e44, hk8', hy, y0, p43]
    · have hX := hb1.app [⟨BSt.tip false, .vals [.int .u8 z, .int .u64 n]⟩]
      have fx : Form (.sl q 0 m cap) l.length := Or.inl ⟨q, 0, cap, by rw [hlm], by omega⟩
      have e44 := c44_in hG hX fx (by omega) (by omega : p + k ≤ l.length) k1 k8
      simp (maxDischargeDepth := 9) -implicitDefEqProofs only [push_cast, reduceIte, Nat.reduceEqDiff, Nat.reduceAdd, Nat.reduceSub, Nat.reduceMul, Nat.reduceDiv, Nat.reduceMod, Nat.reduceLT, Nat.reduceLeDiff, Nat.reduceBEq, Nat.reduceBNe, reduceCtorEq, Int.reduceEq, Int.reduceNe, Int.reduceLT, Int.reduceLE, Int.reduceToNat, Int.reduceNeg, Int.reduceAdd, Int.reduceSub, Int.reduceMul, Int.reducePow, Nat.reducePow, Int.reduceBEq, M11, hna, hmm, z1, z2, a1, a2, a3, a4, s0, s1, s2, u1, e46, e44, hk8', hy, y0, p43]


set_option maxHeartbeats 8000000 in
theorem hole_nil (g : AHeap) (hg : Good g) (z n t : Int) (hz : 0 ≤ z ∧ z ≤ 255) (hn : 0 ≤ n ∧ n < 18446744073709551616) (ht : 0 ≤ t ∧ t ≤ 255) :
    Wp (xbody (W CP) M11 [.nils, .agg [.int .u8 z, .int .u64 n], .int .u8 t] g) fun r => r.1 = .bool true := by
  have XS : slen .nils = some 0 := rfl
  have z1 : IntKind.i64.wrap (z.tmod 8) = z % 8 := by rw [Int.tmod_eq_emod_of_nonneg hz.1]; exact wr_i64 _ (by omega) (by omega)
  obtain ⟨k, hk⟩ : ∃ k : Nat, 1 + z % 8 = (k : Int) := ⟨(1 + z % 8).toNat, by omega⟩
  have k1 : 1 ≤ k := by omega
  have k8 : k ≤ 8 := by omega
  have z2 : IntKind.i64.wrap (1 + z % 8) = (k : Int) := by rw [hk]; exact wr_i64 _ (by omega) (by omega)
  have a1 : IntKind.i64.wrap t = t := wr_i64 _ (by omega) (by omega)
  have a2 : IntKind.i64.wrap 2 = 2 := wr_i64 _ (by omega) (by omega)
  have a3 : ¬ (2 : Int) = 0 := by omega
  obtain ⟨p, hp⟩ : ∃ p : Nat, t % ((2 : Int)) = (p : Int) := ⟨(t % ((2 : Int))).toNat, by have := Int.emod_nonneg t (show (2 : Int) ≠ 0 by omega); omega⟩
  have a4 : t.tmod ((2 : Int)) = (p : Int) := by rw [Int.tmod_eq_emod_of_nonneg ht.1, hp]
  have hpm : p ≤ 1 := by have := Int.emod_lt_of_pos t (show (0 : Int) < (2 : Int) by omega); omega
  obtain ⟨s, hs⟩ : ∃ s, 8 * k = s := ⟨_, rfl⟩
  have s1 : IntKind.i64.wrap (8 * (k : Int)) = (s : Int) := by rw [wr_i64 _ (by omega) (by omega)]; omega
  have s2 : min s 64 = s := by omega
  have s0 : ¬ (s : Int) < 0 := by omega
  obtain ⟨u, hu⟩ : ∃ u, p + k = u := ⟨_, rfl⟩
  have u1 : IntKind.i64.wrap ((p : Int) + (k : Int)) = (u : Int) := by rw [wr_i64 _ (by omega) (by omega)]; omega
  obtain ⟨bx, hbx⟩ : ∃ bx : ABlk, bx = ⟨.tip false, .vals [.int .u8 z, .int .u64 n]⟩ := ⟨_, rfl⟩
  have hG : Good (g ++ [⟨.tip false, .vals [.int .u8 z, .int .u64 n]⟩]) := good_app hg rfl
  have hn1 : n < 18446744073709551616 := hn.2
  obtain ⟨y, hy⟩ : ∃ y, n.fdiv (2 ^ s) = y := ⟨_, rfl⟩
  have hy2 : y = n / 256 ^ k := by rw [← hy, Int.fdiv_eq_ediv_of_nonneg _ (by rw [← hs, pow256]; exact Int.le_of_lt (Int.pow_pos (by omega))), ← hs, pow256]
  by_cases hv : n < 256 ^ k
  · have y0 : y = 0 := by rw [hy2]; exact Int.ediv_eq_zero_of_lt hn.1 hv
    rw [y0] at hy
    by_cases hin : 0 < p + k
    · have e46 := c46_short (h := (g ++ [⟨BSt.tip false, .vals [.int .u8 z, .int .u64 n]⟩])) (p := p) hG XS (by omega) hn.1 hn1 hv k1 k8 hin
      have e44 := c44_out (h := (g ++ [⟨BSt.tip false, .vals [.int .u8 z, .int .u64 n]⟩])) (p := p) hG XS (by omega) hin k1 k8
      have hmu : (0 : Int) < (u : Int) := by omega
      by_cases hk8 : k = 8
      · have hk8' : ¬ (k : Int) < 8 := by omega
        simp (maxDischargeDepth := 9) -implicitDefEqProofs only [push_cast, reduceIte, Nat.reduceEqDiff, Nat.reduceAdd, Nat.reduceSub, Nat.reduceMul, Nat.reduceDiv, Nat.reduceMod, Nat.reduceLT, Nat.reduceLeDiff, Nat.reduceBEq, Nat.reduceBNe, reduceCtorEq, Int.reduceEq, Int.reduceNe, Int.reduceLT, Int.reduceLE, Int.reduceToNat, Int.reduceNeg, Int.reduceAdd, Int.reduceSub, Int.reduceMul, Int.reducePow, Nat.reducePow, Int.reduceBEq, M11, z1, z2, a1, a2, a3, a4, s0, s1, s2, u1, e46, e44, hmu, hk8', p43]
      · have hk8' : (k : Int) < 8 := by omega
        simp (maxDischargeDepth := 9) -implicitDefEqProofs only [push_cast, reduceIte, Nat.reduceEqDiff, Nat.reduceAdd, Nat.reduceSub, Nat.reduceMul, Nat.reduceDiv, Nat.reduceMod, Nat.reduceLT, Nat.reduceLeDiff, Nat.reduceBEq, Nat.reduceBNe, reduceCtorEq, Int.reduceEq, Int.reduceNe, Int.reduceLT, Int.reduceLE, Int.reduceToNat, Int.reduceNeg, Int.reduceAdd, Int.reduceSub, Int.reduceMul, Int.reducePow, Nat.reducePow, Int.reduceBEq, M11, z1, z2, a1, a2, a3, a4, s0, s1, s2, u1, e46, e44, hmu, hk8', hy, p43]
    · exact absurd (show 0 < p + k by omega) hin
  · have hk8 : k < 8 := by
      rcases Nat.lt_or_ge k 8 with h | h
      · exact h
      · have : k = 8 := by omega
        subst this
        exact absurd hn1 (by simpa using hv)
    have hk8' : (k : Int) < 8 := by omega
    have y0 : ¬ y = 0 := by
      intro h0
      rw [hy2] at h0
      have hp : (0 : Int) < 256 ^ k := Int.pow_pos (by omega)
      have := Int.lt_ediv_add_one_mul_self n hp
      rw [h0] at this
      omega
    have e46 := c46_range (h := (g ++ [⟨BSt.tip false, .vals [.int .u8 z, .int .u64 n]⟩])) (p := p) hG XS hn.1 hn1 hv k1 k8
    by_cases hin : 0 < p + k
    · have e44 := c44_out (h := (g ++ [⟨BSt.tip false, .vals [.int .u8 z, .int .u64 n]⟩])) (p := p) hG XS (by omega) hin k1 k8
      simp (maxDischargeDepth := 9) -implicitDefEqProofs only [push_cast, reduceIte, Nat.reduceEqDiff, Nat.reduceAdd, Nat.reduceSub, Nat.reduceMul, Nat.reduceDiv, Nat.reduceMod, Nat.reduceLT, Nat.reduceLeDiff, Nat.reduceBEq, Nat.reduceBNe, reduceCtorEq, Int.reduceEq, Int.reduceNe, Int.reduceLT, Int.reduceLE, Int.reduceToNat, Int.reduceNeg, Int.reduceAdd, Int.reduceSub, Int.reduceMul, Int.reducePow, Nat.reducePow, Int.reduceBEq, M11, z1, z2, a1, a2, a3, a4, s0, s1, s2, u1, e46, e44, hk8', hy, y0, p43]
    · exact absurd (show 0 < p + k by omega) hin


theorem bytes_at {h : AHeap} {q cap : Nat} {es : List (List AV)} (hq : h[q]? = some ⟨.ext, mkC [.i .u8] es.flatten⟩) (he : ∀ e ∈ es, TyL h [.i .u8] e) : BytAt h (.sl q 0 es.length cap) (es.flatten.map toI) := by
  have hl := flat_len (l := [CK.i .u8]) fun e h' => (TyL_lt (he e h')).2.2
  have hl1 : es.flatten.length = es.length := by rw [hl]; simp
  have fl1 : (es.flatten.map toI).length = es.length := by rw [List.length_map, hl1]
  refine ⟨by rw [fl1]; rfl, ?_, ?_⟩
  · simp only [sliceCells]
    unfold cellsAt
    rw [hq]
    have e : mkC [.i .u8] es.flatten = .ints .u8 (es.flatten.map toI) := rfl
    simp only [e]
    clear e hq
    generalize es.flatten.map toI = fl at fl1 ⊢
    simp only [Option.bind_some, ACells.len, ACells.sub, List.drop_zero]
    rw [if_pos (by omega), ← fl1, Nat.mul_one, List.take_length]
  · intro x hx
    obtain ⟨a, ha, rfl⟩ := List.mem_map.1 hx
    obtain ⟨e, h1, h2⟩ := List.mem_flatten.1 ha
    have := he e h1
    simp only [TyL, Ty] at this
    obtain ⟨v, vs, rfl, ⟨n, rfl, n1, n2⟩, rfl⟩ := this
    simp only [List.mem_singleton] at h2
    subst h2
    have a : 0 ≤ n := n1
    have b : n ≤ 255 := n2
    exact ⟨a, by show n < 256; omega⟩

theorem hole_law (js : AHeap) (avs : List AV) (hx : Ext js) (ht : TyA (CP.gl ++ js) [.one (.sl [.i .u8]), .agg [.i .u8, .i .u64], .one (.i .u8)] avs) : ∃ h' ws, W CP 11 avs (CP.gl ++ js) = some (.bool true, h', ws) := by
  simp only [TyA] at ht
  obtain ⟨v, _, rfl, h1, cs, _, rfl, h2, _, _, rfl, h3, rfl⟩ := ht
  simp only [TyL, Ty] at h2 h3
  obtain ⟨_, _, rfl, ⟨z, rfl, z1, z2⟩, _, _, rfl, ⟨n, rfl, n1, n2⟩, rfl⟩ := h2
  obtain ⟨t, rfl, t1, t2⟩ := h3
  have hz : 0 ≤ z ∧ z ≤ 255 := ⟨z1, z2⟩
  have htt : 0 ≤ t ∧ t ≤ 255 := ⟨t1, t2⟩
  have hn : 0 ≤ n ∧ n < 18446744073709551616 := by
    have a : 0 ≤ n := n1
    have b : n ≤ 18446744073709551615 := n2
    omega
  obtain ⟨es, h4, h5⟩ := Ty_sl h1
  rcases h4 with ⟨rfl, rfl⟩ | ⟨q, cap, rfl, g1, g2, g3, g4⟩
  · exact W_law (m := M11) (fun _ => rfl) rfl (hole_nil _ hx.good z n t hz hn htt) fun _ => hole_nil _ good_nil z n t hz hn htt
  · refine W_law (m := M11) (fun _ => rfl) rfl ?_ fun h0 => by simp [AV.lts, AV.lt] at h0
    have hl := flat_len (l := [CK.i .u8]) fun e he => (TyL_lt (h5 e he)).2.2
    have hb := bytes_at (cap := cap) g4 h5
    exact hole_sl _ hx.good q es.length cap (es.flatten.map toI) (by rw [List.length_map, hl]; simp) g1 hb z n t hz hn htt
theorem hole_kinds : aksOf X.P 20 [59, 93, 5] = some [.one (.sl [.i .u8]), .agg [.i .u8, .i .u64], .one (.i .u8)] := by kernel_rfl
end Go.Proofs.YtimlhgpjmjmjhaaW.AI.B
