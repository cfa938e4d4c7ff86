import Derived.Test.YtcpiohklljppaaaAIDrul
import Derived.Test.YtcpiohklljppaaaAIDgrows
namespace Go.Proofs.YtcpiohklljppaaaW.AI.D
open Go Go.Proofs.YtcpiohklljppaaaW.AI
set_option maxRecDepth 100000
set_option linter.unusedVariables false
set_option linter.unusedSimpArgs false
theorem Of_ok {h : AHeap} {p : Nat} {t f left came took gave rho lo hi : Int} (hg : Good h) (r : Rul h p t f) (l0 : 0 ≤ left) (lc : left ≤ came) (c2 : came ≤ 4611686018427387904)
    (k0 : 0 ≤ took) (k1 : took ≤ 4611686018427387904) (g1 : gave ≤ 4611686018427387904) (r0 : 0 ≤ rho) (rg : rho ≤ gave) (el : gave - rho = lo) (eh : took + rho + 1 + upV t f (came - left) = hi) (lh : lo ≤ hi) (hh : hi ≤ 4611686018427387904) :
    W CP 18 [.ptr p 0, .int .i64 left, .int .i64 came, .int .i64 took, .int .i64 gave, .int .i64 rho] h = some (.tup [.agg [.int .i64 came, .int .i64 lo, .int .i64 hi], .int .i64 0], h, []) := by
  rw [Ruler_Of hg r]
  have e1 : ([left, came, took, gave, rho].all okT) = true := by
    simp only [List.all_cons, List.all_nil, Bool.and_true, Bool.and_eq_true, okT, decide_eq_true_eq]
    refine ⟨⟨by omega, by omega⟩, ⟨by omega, by omega⟩, ⟨by omega, by omega⟩, ⟨by omega, by omega⟩, ⟨by omega, by omega⟩⟩
  have e2 : ofLo gave rho = lo := by unfold ofLo; rw [el]; exact bro_id (by omega) (by omega)
  have e3 : ofHi t f left came took rho = hi := by unfold ofHi; rw [eh]; exact bro_id (by omega) (by omega)
  rw [if_pos ⟨e1, lc⟩, e2, e3, if_pos lh]
set_option maxHeartbeats 8000000 in
theorem sooner_body (g : AHeap) (hg : Good g) (x0 x1 x2 a b c : Int) (h0 : 0 ≤ x0) (h1 : 0 ≤ x1) (h2 : 0 ≤ x2) (ha : 0 ≤ a) (hb : 0 ≤ b) (hc : 0 ≤ c) :
    Wp (xbody (W CP) M5 [.agg [.int .u64 x0, .int .u64 x1, .int .u64 x2], .int .u64 a, .int .u64 b, .int .u64 c] g) fun r => r.1 = .bool true := by
  obtain ⟨t, ht, t1, t2⟩ := tmod_to 1000000000 h0 (by omega)
  obtain ⟨f, hf, f1, f2⟩ := tmod_to 500001 h1 (by omega)
  obtain ⟨ρ, hρ, ρ1, ρ2⟩ := tmod_to 1125899906842624 h2 (by omega)
  obtain ⟨L, hL, L1, L2⟩ := tmod_to 1125899906842624 ha (by omega)
  obtain ⟨s, hs, s1, s2⟩ := tmod_to (L + 1) hb (by omega)
  obtain ⟨q, hq, q1, q2⟩ := tmod_to (ρ + 1) hc (by omega)
  obtain ⟨m, hm, m1, m2⟩ := tmod_to 18014398509481984 hc (by omega)
  have w1 : IntKind.i64.wrap t = t := wr_i64 _ (by omega) (by omega)
  have w2 : IntKind.i64.wrap f = f := wr_i64 _ (by omega) (by omega)
  have w3 : IntKind.i64.wrap (1 + t) = 1 + t := wr_i64 _ (by omega) (by omega)
  have w4 : IntKind.i64.wrap ρ = ρ := wr_i64 _ (by omega) (by omega)
  have w5 : IntKind.i64.wrap L = L := wr_i64 _ (by omega) (by omega)
  have w6 : IntKind.i64.wrap (L + 1) = L + 1 := wr_i64 _ (by omega) (by omega)
  have w7 : IntKind.u64.wrap (L + 1) = L + 1 := wr_u64 _ (by omega) (by omega)
  have w8 : IntKind.i64.wrap s = s := wr_i64 _ (by omega) (by omega)
  have n1 : ¬ L + 1 = 0 := by omega
  have n2 : ¬ ρ + 1 = 0 := by omega
  have w9 : IntKind.i64.wrap (ρ + 1) = ρ + 1 := wr_i64 _ (by omega) (by omega)
  have w10 : IntKind.u64.wrap (ρ + 1) = ρ + 1 := wr_u64 _ (by omega) (by omega)
  have w11 : IntKind.i64.wrap q = q := wr_i64 _ (by omega) (by omega)
  have w12 : IntKind.i64.wrap m = m := wr_i64 _ (by omega) (by omega)
  obtain ⟨S, hS⟩ : ∃ S, L - s = S := ⟨_, rfl⟩
  have w13 : IntKind.i64.wrap (L - s) = S := by rw [wr_i64 _ (by omega) (by omega)]; exact hS
  obtain ⟨Q, hQ⟩ : ∃ Q, ρ - q = Q := ⟨_, rfl⟩
  have w14 : IntKind.i64.wrap (ρ - q) = Q := by rw [wr_i64 _ (by omega) (by omega)]; exact hQ
  obtain ⟨T, hT⟩ : ∃ T, 36028797018963968 + m = T := ⟨_, rfl⟩
  have w15 : IntKind.i64.wrap (36028797018963968 + m) = T := by rw [wr_i64 _ (by omega) (by omega)]; exact hT
  have k1 : 1 ≤ 1 + t := by omega
  have k2 : 1 + t ≤ 1000000000 := by omega
  have k3 : f ≤ 500000 := by omega
  obtain ⟨U, eU, U1, U2, U3, U4⟩ := upV_char k1 k2 f1 k3 L1 (by omega : L ≤ 4000000000000000000)
  obtain ⟨V, eV, V1, V2, _, _⟩ := upV_char k1 k2 f1 k3 (by omega : 0 ≤ S) (by omega : S ≤ 4000000000000000000)
  have l1 := upV_gap k1 k2 f1 k3 (by omega : 0 ≤ S) (by omega : S ≤ L) (by omega)
  have l2 := upV_mono k1 k2 f1 k3 (by omega : 0 ≤ S) (by omega : S ≤ L) (by omega)
  rw [eU, eV] at l1 l2
  have U5 : U < 3000000000000000 := by
    have h1 : (U - 1) * 999500000 ≤ (U - 1) * (1000000000 - f) := Int.mul_le_mul_of_nonneg_left (by omega) (by omega)
    omega
  have z1 : L - 0 = L := by omega
  have z2 : S - 0 = S := by omega
  obtain ⟨lo, hlo⟩ : ∃ lo, 36028797018963968 - ρ = lo := ⟨_, rfl⟩
  obtain ⟨hi, hhi⟩ : ∃ hi, 36028797018963968 + ρ + 1 + U = hi := ⟨_, rfl⟩
  obtain ⟨hb, hhb⟩ : ∃ hi, 36028797018963968 + ρ + 1 + V = hi := ⟨_, rfl⟩
  obtain ⟨lc, hlc⟩ : ∃ lo, 36028797018963968 - Q = lo := ⟨_, rfl⟩
  obtain ⟨hc, hhc⟩ : ∃ hi, 36028797018963968 + Q + 1 + U = hi := ⟨_, rfl⟩
  obtain ⟨ld, hld⟩ : ∃ lo, T - ρ = lo := ⟨_, rfl⟩
  obtain ⟨hd, hhd⟩ : ∃ hi, T + ρ + 1 + U = hi := ⟨_, rfl⟩
  have hG := fun js (hj : js.all notOld = true) => good_app (js := ⟨.tip false, .ints .u64 [x0, x1, x2]⟩ :: ⟨.tip false, .vals [.int .i64 (1 + t), .int .i64 f, .bool true]⟩ :: js) hg (by simpa [notOld] using hj)
  have hR := fun js => show Rul (g ++ (⟨.tip false, .ints .u64 [x0, x1, x2]⟩ :: ⟨.tip false, .vals [.int .i64 (1 + t), .int .i64 f, .bool true]⟩ :: js)) (g.length + 1) (1 + t) f from
    ⟨by rw [List.getElem?_append_right (by omega)]; simp, by simp, by omega, by omega, f1, by omega⟩
  have eN := fun h => span_New (t := 1 + t) (f := f) (by omega) (by omega) (by omega) (by omega) h
  have aw := fun h => law19_awake h
  have eA := Of_ok (lo := lo) (hi := hi) (left := 0) (came := L) (took := 36028797018963968) (gave := 36028797018963968) (rho := ρ) (hG [] rfl) (hR _) (by omega) L1 (by omega) (by omega) (by omega) (by omega) ρ1 (by omega) hlo (by rw [z1, eU, hhi]) (by omega) (by omega)
  have eB := fun b1 => Of_ok (lo := lo) (hi := hb) (left := 0) (came := S) (took := 36028797018963968) (gave := 36028797018963968) (rho := ρ) (hG [⟨.tip false, b1⟩] rfl) (hR _) (by omega) (by omega) (by omega) (by omega) (by omega) (by omega) ρ1 (by omega) hlo (by rw [z2, eV, hhb]) (by omega) (by omega)
  have eC := fun b1 b2 => Of_ok (lo := lc) (hi := hc) (left := 0) (came := L) (took := 36028797018963968) (gave := 36028797018963968) (rho := Q) (hG [⟨.tip false, b1⟩, ⟨.tip false, b2⟩] rfl) (hR _) (by omega) L1 (by omega) (by omega) (by omega) (by omega) (by omega) (by omega) hlc (by rw [z1, eU, hhc]) (by omega) (by omega)
  have eD := fun b1 b2 b3 => Of_ok (lo := ld) (hi := hd) (left := 0) (came := L) (took := T) (gave := T) (rho := ρ) (hG [⟨.tip false, b1⟩, ⟨.tip false, b2⟩, ⟨.tip false, b3⟩] rfl) (hR _) (by omega) L1 (by omega) (by omega) (by omega) (by omega) (by omega) (by omega) hld (by rw [z1, eU, hhd]) (by omega) (by omega)
  have y1 : IntKind.i64.wrap (ld - lo) = m := by rw [wr_i64 _ (by omega) (by omega)]; omega
  have y2 : IntKind.i64.wrap (hd - hi) = m := by rw [wr_i64 _ (by omega) (by omega)]; omega
  have y3 : hb ≤ hi := by omega
  have y4 : IntKind.i64.wrap (lc - lo) = q := by rw [wr_i64 _ (by omega) (by omega)]; omega
  have y5 : IntKind.i64.wrap (ρ - Q) = q := by rw [wr_i64 _ (by omega) (by omega)]; omega
  have y6 : IntKind.i64.wrap (hi - hc) = q := by rw [wr_i64 _ (by omega) (by omega)]; omega
  have y7 : IntKind.i64.wrap (hi - hb) = U - V := by rw [wr_i64 _ (by omega) (by omega)]; omega
  have y8 : IntKind.i64.wrap (L - S) = s := by rw [wr_i64 _ (by omega) (by omega)]; omega
  have y9 : IntKind.i64.wrap (s - 1) = s - 1 := by rw [wr_i64 _ (by omega) (by omega)]
  have y10 : s - 1 ≤ U - V := by omega
  have eW := fun h => span_Width (a := L) (l := lo) (u := hi) h
  have e2 : widS L lo hi = hi - lo := by
    unfold widS
    rw [if_pos (mayS_iff.2 ⟨⟨by omega, by omega⟩, by omega, by omega, by omega⟩)]
  rw [e2] at eW
  have y11 : IntKind.i64.wrap (2 * ρ) = 2 * ρ := by rw [wr_i64 _ (by omega) (by omega)]
  have y12 : 2 * ρ ≤ hi - lo := by omega
  simp (maxDischargeDepth := 9) -implicitDefEqProofs only [push_cast, reduceIte, Nat.reduceEqDiff, Nat.reduceAdd, Nat.reduceSub, Nat.reduceMul, Nat.reduceDiv, Nat.reduceMod, Nat.reduceLT, Nat.reduceLeDiff, Nat.reduceBEq, Nat.reduceBNe, reduceCtorEq, Int.reduceEq, Int.reduceNe, Int.reduceLT, Int.reduceLE, Int.reduceToNat, Int.reduceNeg, Int.reduceAdd, Int.reduceSub, Int.reduceMul, Int.reducePow, Nat.reducePow, Int.reduceBEq, M5, ht, hf, hρ, hL, hs, hq, hm, w1, w2, w3, w4, w5, w6, w7, w8, n1, n2, w9, w10, w11, w12, w13, w14, w15, eN, aw, eA, eB, eC, eD, y1, y2, y3, y4, y5, y6, y7, y8, y9, y10, eW, y11, y12]
theorem sooner_law (js : AHeap) (avs : List AV) (hx : Ext js) (ht : TyA (CP.gl ++ js) [.agg [.i .u64, .i .u64, .i .u64], .one (.i .u64), .one (.i .u64), .one (.i .u64)] avs) : ∃ h' ws, W CP 5 avs (CP.gl ++ js) = some (.bool true, h', ws) := by
  simp only [TyA] at ht
  obtain ⟨cs, _, rfl, h2, a, _, rfl, h3, b, _, rfl, h4, c, _, rfl, h5, rfl⟩ := ht
  simp only [TyL, Ty] at h2 h3 h4 h5
  obtain ⟨_, _, rfl, ⟨x0, rfl, a1, a2⟩, _, _, rfl, ⟨x1, rfl, a3, a4⟩, _, _, rfl, ⟨x2, rfl, a5, a6⟩, rfl⟩ := h2
  obtain ⟨a, rfl, b1, b2⟩ := h3
  obtain ⟨b, rfl, b3, b4⟩ := h4
  obtain ⟨c, rfl, b5, b6⟩ := h5
  have a1' : 0 ≤ x0 := a1
  have a3' : 0 ≤ x1 := a3
  have a5' : 0 ≤ x2 := a5
  have b1' : 0 ≤ a := b1
  have b3' : 0 ≤ b := b3
  have b5' : 0 ≤ c := b5
  exact W_law (m := M5) (fun _ => rfl) rfl (sooner_body _ (good_ext hx) x0 x1 x2 a b c a1' a3' a5' b1' b3' b5') fun _ => sooner_body _ good_gl x0 x1 x2 a b c a1' a3' a5' b1' b3' b5'
theorem sooner_kinds : aksOf X.P 20 [42, 40, 40, 40] = some [.agg [.i .u64, .i .u64, .i .u64], .one (.i .u64), .one (.i .u64), .one (.i .u64)] := by kernel_rfl
end Go.Proofs.YtcpiohklljppaaaW.AI.D
