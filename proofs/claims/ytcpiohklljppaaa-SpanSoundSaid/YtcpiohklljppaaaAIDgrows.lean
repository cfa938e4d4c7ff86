import Derived.Test.YtcpiohklljppaaaAIDrul
import Derived.Test.YtcpiohklljppaaaAIDlawk
namespace Go.Proofs.YtcpiohklljppaaaW.AI.D
open Go Go.Proofs.YtcpiohklljppaaaW.AI
set_option maxRecDepth 100000
set_option linter.unusedVariables false
set_option linter.unusedSimpArgs false
theorem law19_awake (h : AHeap) : W CP 17 [] h = some (.bool true, h, []) := W_known (n := 200) (fun _ => rfl) (by kernel_rfl) h
set_option maxHeartbeats 4000000 in
theorem grows_body (g : AHeap) (hg : Good g) (x0 x1 x2 a b : Int) (h0 : 0 ≤ x0) (h1 : 0 ≤ x1) (ha : 0 ≤ a) (hb : 0 ≤ b) :
    Wp (xbody (W CP) M4 [.agg [.int .u64 x0, .int .u64 x1, .int .u64 x2], .int .u64 a, .int .u64 b] g) fun r => r.1 = .bool true := by
  obtain ⟨t, ht, t1, t2⟩ := tmod_to 1000000000 h0 (by omega)
  obtain ⟨f, hf, f1, f2⟩ := tmod_to 500001 h1 (by omega)
  obtain ⟨p, hp, p1, p2⟩ := tmod_to 1152921504606846976 ha (by omega)
  obtain ⟨q, hq, q1, q2⟩ := tmod_to 1152921504606846976 hb (by omega)
  have w1 : IntKind.i64.wrap t = t := wr_i64 _ (by omega) (by omega)
  have w2 : IntKind.i64.wrap f = f := wr_i64 _ (by omega) (by omega)
  have w3 : IntKind.i64.wrap (1 + t) = 1 + t := wr_i64 _ (by omega) (by omega)
  have eN := fun h => span_New (t := 1 + t) (f := f) (by omega) (by omega) (by omega) (by omega) h
  have aw := fun h => law19_awake h
  have hG : Good (g ++ [⟨.tip false, .ints .u64 [x0, x1, x2]⟩, ⟨.tip false, .vals [.int .i64 (1 + t), .int .i64 f, .bool true]⟩]) := good_app hg rfl
  have hR : Rul (g ++ [⟨.tip false, .ints .u64 [x0, x1, x2]⟩, ⟨.tip false, .vals [.int .i64 (1 + t), .int .i64 f, .bool true]⟩]) (g.length + 1) (1 + t) f :=
    ⟨by rw [List.getElem?_append_right (by omega)]; simp, by simp, by omega, by omega, f1, by omega⟩
  have eU := fun x => Ruler_Up (x := x) hG hR
  have eD := fun x => Ruler_Down (x := x) hG hR
  obtain ⟨m, n, hm, hn, m0, mn, n2⟩ : ∃ m n : Int, (if q < p then q else p) = m ∧ (if p < q then q else p) = n ∧ 0 ≤ m ∧ m ≤ n ∧ n < 1152921504606846976 := by
    by_cases h : p < q
    · exact ⟨p, q, by rw [if_neg (by omega)], by rw [if_pos h], by omega, by omega, by omega⟩
    · by_cases h' : q < p
      · exact ⟨q, p, by rw [if_pos h'], by rw [if_neg h], by omega, by omega, by omega⟩
      · exact ⟨p, p, by rw [if_neg h'], by rw [if_neg h], by omega, by omega, by omega⟩
  have w4 : IntKind.i64.wrap m = m := wr_i64 _ (by omega) (by omega)
  have w5 : IntKind.i64.wrap n = n := wr_i64 _ (by omega) (by omega)
  have w6 : IntKind.i64.wrap (m + n) = m + n := wr_i64 _ (by omega) (by omega)
  have k1 : 1 ≤ 1 + t := by omega
  have k2 : 1 + t ≤ 1000000000 := by omega
  have k3 : f ≤ 500000 := by omega
  have l1 := upV_mono k1 k2 f1 k3 m0 mn (by omega)
  have l2 := downV_mono k1 k2 f1 k3 m0 mn (by omega)
  have l3 := upV_add k1 k2 f1 k3 m0 (by omega : 0 ≤ n) (by omega)
  have l4 := downV_add k1 k2 f1 k3 m0 (by omega : 0 ≤ n) (by omega)
  have l5 : upV (1 + t) f (-5) = upV (1 + t) f 0 := upV_neg (by omega)
  have l6 : downV (1 + t) f (-5) = 0 := downV_neg k1 f1 k3 (by omega)
  obtain ⟨u, eu, u1, u2, _, _⟩ := upV_char k1 k2 f1 k3 m0 (by omega : m ≤ 4000000000000000000)
  obtain ⟨v, ev, v1, v2, _, v4⟩ := upV_char k1 k2 f1 k3 (by omega : 0 ≤ n) (by omega : n ≤ 4000000000000000000)
  obtain ⟨d, ed, d1, d2, _, _⟩ := downV_char k1 k2 f1 k3 m0 (by omega : m ≤ 4611686018427387904)
  obtain ⟨e, ee, e1, e2, _, _⟩ := downV_char k1 k2 f1 k3 (by omega : 0 ≤ n) (by omega : n ≤ 4611686018427387904)
  obtain ⟨c, ec, c1, c2, _, _⟩ := downV_char k1 k2 f1 k3 (by omega : 0 ≤ m + n) (by omega : m + n ≤ 4611686018427387904)
  obtain ⟨b0, eb0, b1, b2, _, _⟩ := upV_char k1 k2 f1 k3 (by omega : 0 ≤ m + n) (by omega : m + n ≤ 4000000000000000000)
  have v5 : v < 3000000000000000000 := by
    have h1 : (v - 1) * 999500000 ≤ (v - 1) * (1000000000 - f) := Int.mul_le_mul_of_nonneg_left (by omega) (by omega)
    omega
  rw [eu, ev] at l1
  rw [ed, ee] at l2
  rw [eu, ev, eb0] at l3
  rw [ed, ee, ec] at l4
  have w7 : IntKind.i64.wrap (u + v) = u + v := wr_i64 _ (by omega) (by omega)
  have w8 : IntKind.i64.wrap (d + e) = d + e := wr_i64 _ (by omega) (by omega)
  have w9 : IntKind.i64.wrap (c + 1) = c + 1 := wr_i64 _ (by omega) (by omega)
  have y1 : u ≤ v := l1
  have y2 : d ≤ e := l2
  have y3 : d ≤ m := d2
  have y4 : m < u := by omega
  have y5 : b0 ≤ u + v := l3
  have y6 : d + e ≤ c + 1 := by omega
  simp (maxDischargeDepth := 9) -implicitDefEqProofs only [push_cast, reduceIte, Nat.reduceEqDiff, Nat.reduceAdd, Nat.reduceSub, Nat.reduceMul, Nat.reduceDiv, Nat.reduceMod, Nat.reduceLT, Nat.reduceLeDiff, Nat.reduceBEq, Nat.reduceBNe, reduceCtorEq, Int.reduceEq, Int.reduceNe, Int.reduceLT, Int.reduceLE, Int.reduceToNat, Int.reduceNeg, Int.reduceAdd, Int.reduceSub, Int.reduceMul, Int.reducePow, Nat.reducePow, Int.reduceBEq, M4, ht, hf, hp, hq, w1, w2, w3, eN, aw, eU, eD, hm, hn, w4, w5, w6, w7, w8, w9, eu, ev, ed, ee, ec, eb0, y1, y2, y3, y4, y5, y6, l5, l6]
theorem grows_law (js : AHeap) (avs : List AV) (hx : Ext js) (ht : TyA (CP.gl ++ js) [.agg [.i .u64, .i .u64, .i .u64], .one (.i .u64), .one (.i .u64)] avs) : ∃ h' ws, W CP 4 avs (CP.gl ++ js) = some (.bool true, h', ws) := by
  simp only [TyA] at ht
  obtain ⟨cs, _, rfl, h2, a, _, rfl, h3, b, _, rfl, h4, rfl⟩ := ht
  simp only [TyL, Ty] at h2 h3 h4
  obtain ⟨_, _, rfl, ⟨x0, rfl, a1, a2⟩, _, _, rfl, ⟨x1, rfl, a3, a4⟩, _, _, rfl, ⟨x2, rfl, a5, a6⟩, rfl⟩ := h2
  obtain ⟨a, rfl, b1, b2⟩ := h3
  obtain ⟨b, rfl, b3, b4⟩ := h4
  have a1' : 0 ≤ x0 := a1
  have a3' : 0 ≤ x1 := a3
  have b1' : 0 ≤ a := b1
  have b3' : 0 ≤ b := b3
  exact W_law (m := M4) (fun _ => rfl) rfl (grows_body _ (good_ext hx) x0 x1 x2 a b a1' a3' b1' b3') fun _ => grows_body _ good_gl x0 x1 x2 a b a1' a3' b1' b3'
theorem grows_kinds : aksOf X.P 20 [42, 40, 40] = some [.agg [.i .u64, .i .u64, .i .u64], .one (.i .u64), .one (.i .u64)] := by kernel_rfl
end Go.Proofs.YtcpiohklljppaaaW.AI.D
