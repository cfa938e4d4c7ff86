import Derived.Test.YthcjmmngenogmaaAIEsky6
namespace Go.Proofs.YthcjmmngenogmaaW.AI.E
open Go Go.Proofs.YthcjmmngenogmaaW.AI
set_option maxRecDepth 100000
set_option linter.unusedSimpArgs false
set_option linter.unusedVariables false
set_option linter.unusedSectionVars false
theorem good_ext {js : AHeap} (h : Ext js) : Good (CP.gl ++ js) := good_app glG (List.all_eq_true.2 fun x hx => by unfold notOld; rcases h x hx with e | e <;> rw [e])
theorem ty_nil {g g' : AHeap} {l : List CK} {y : AV} (h : Ty g (.sl l) y) (h0 : y.lt 0 = true) : Ty g' (.sl l) y := by
  simp only [Ty] at h ⊢
  rcases h with rfl | ⟨b, n, c, es, rfl, _⟩
  · exact Or.inl rfl
  · simp [AV.lt] at h0
theorem arg_iv {k : IntKind} {g : AHeap} {v : AV} (hv : Ty g (.sl [.i k]) v) : ∃ L, IV k g v L ∧ L.length ≤ 9223372036854775807 ∧ ∀ x ∈ L, k.min ≤ x ∧ x ≤ k.max := by
  obtain ⟨es, hs, he⟩ := Ty_sl hv
  have hle := hs.le
  rcases hs with ⟨rfl, rfl⟩ | ⟨b, c, rfl, g1, g2, g3, g4⟩
  · exact ⟨[], IV.nil k g, by simp, by simp⟩
  · have hl := flat_len (l := [CK.i k]) fun e h' => (TyL_lt (he e h')).2.2
    have hl1 : (es.flatten.map toI).length = es.length := by rw [List.length_map, hl]; simp
    refine ⟨es.flatten.map toI, Or.inr ⟨b, c, .ext, es.flatten.map toI, false, ?_, Or.inl rfl, Nat.le_refl _, List.take_length, Or.inl ⟨by rw [hl1], by omega⟩⟩, by omega, ?_⟩
    · exact g4
    · intro x hx
      obtain ⟨a, ha, rfl⟩ := List.mem_map.1 hx
      obtain ⟨e, h1, h2⟩ := List.mem_flatten.1 ha
      have := he e h1
      simp only [TyL, Ty] at this
      obtain ⟨v, vs, rfl, ⟨n, rfl, n1, n2⟩, rfl⟩ := this
      simp only [List.mem_singleton] at h2
      subst h2
      exact ⟨n1, n2⟩
theorem andM {m : Nat} (hm : m < 9223372036854775808) (a : Int) : 0 ≤ abits .and .i64 a (m : Int) ∧ abits .and .i64 a (m : Int) ≤ (m : Int) := by
  have e : ((BitVec.ofInt IntKind.i64.bits a &&& BitVec.ofInt IntKind.i64.bits (m : Int)).toNat : Int) ≤ (m : Int) := by
    have h1 : (BitVec.ofInt IntKind.i64.bits a &&& BitVec.ofInt IntKind.i64.bits (m : Int)).toNat = (BitVec.ofInt IntKind.i64.bits a).toNat &&& m := by
      have : (BitVec.ofInt IntKind.i64.bits (m : Int)).toNat = m := by
        rw [BitVec.ofInt_natCast, BitVec.toNat_ofNat]
        exact Nat.mod_eq_of_lt (Nat.lt_of_lt_of_le hm (by decide))
      rw [BitVec.toNat_and, this]
    rw [h1]
    have := Nat.and_le_right (n := (BitVec.ofInt IntKind.i64.bits a).toNat) (m := m)
    omega
  have e0 : (0 : Int) ≤ ((BitVec.ofInt IntKind.i64.bits a &&& BitVec.ofInt IntKind.i64.bits (m : Int)).toNat : Int) := Int.natCast_nonneg _
  have : abits .and .i64 a (m : Int) = ((BitVec.ofInt IntKind.i64.bits a &&& BitVec.ofInt IntKind.i64.bits (m : Int)).toNat : Int) := by
    have e1 : abits .and .i64 a (m : Int) = IntKind.i64.wrap ((BitVec.ofInt IntKind.i64.bits a &&& BitVec.ofInt IntKind.i64.bits (m : Int)).toNat : Int) := rfl
    rw [e1]
    exact wr_i64 _ (by omega) (by omega)
  rw [this]
  exact ⟨e0, e⟩
theorem mk64 : mkOf 64 = 18446744073709551615 := by unfold mkOf; decide
theorem and_all {x : Int} (h0 : 0 ≤ x) (h1 : x < 18446744073709551616) : abits .and .u64 x 18446744073709551615 = x := by
  obtain ⟨n, rfl⟩ : ∃ n : Nat, x = (n : Int) := ⟨x.toNat, by omega⟩
  have hn : n < 2 ^ 64 := by omega
  have e : abits .and .u64 (n : Int) 18446744073709551615 = IntKind.u64.wrap ((BitVec.ofInt 64 (n : Int) &&& BitVec.ofInt 64 18446744073709551615).toNat : Int) := rfl
  have e2 : BitVec.ofInt 64 18446744073709551615 = BitVec.allOnes 64 := by decide
  rw [e, e2, BitVec.and_allOnes, BitVec.ofInt_natCast, BitVec.toNat_ofNat, Nat.mod_eq_of_lt hn]
  exact wr_u64 _ (by omega) (by omega)
theorem alive30 (h : AHeap) : W CP 17 [] h = some (.bool true, h, []) := W_known (n := 400) (fun _ => rfl) (by kernel_rfl) h
theorem tks_0 {P : List (Int × Int)} {hz t : Int} (hP : Pcs P) (ht : t ≤ 0) : tks hz P t = 0 := by
  have : tm t = 0 := by unfold tm clamp; split <;> (try split) <;> omega
  unfold tks
  rw [this, pac_0 hP, Int.zero_mul]
  rfl
set_option maxHeartbeats 8000000 in
theorem goes_body {g : AHeap} (hg : Good g) {z a b : Int} {lv ov : AV} (z0 : 0 ≤ z) (z1 : z < 4294967296) (hL : Ty g (.sl [.i .u64]) lv) (hO : Ty g (.sl [.i .i32]) ov) :
    Wp (xbody (W CP) M3 [.int .u32 z, lv, ov, .int .i64 a, .int .i64 b] g) fun r => r.1 = .bool true := by
  obtain ⟨L, uL, lL, rL⟩ := arg_iv hL
  obtain ⟨O, uO, lO, rO⟩ := arg_iv hO
  have h1 : IntKind.u64.min = 0 := rfl
  have h2 : IntKind.u64.max = 18446744073709551615 := rfl
  have h3 : IntKind.i32.min = -2147483648 := rfl
  have h4 : IntKind.i32.max = 2147483647 := rfl
  obtain ⟨P, _, js, eM, ⟨p, rfl, hp, sk⟩, hG⟩ := made_c hg uL uO z0 z1 (fun x hx => by have := rL x hx; omega) (fun x hx => by have := rO x hx; omega) lL lO
  have nL := uL.na
  have nO := uO.na
  obtain ⟨H, hH⟩ : ∃ H, g ++ js = H := ⟨_, rfl⟩
  rw [hH] at eM sk hG
  have hP := sk.ok
  have y0 := sk.hz0
  have y1 := sk.hz1
  obtain ⟨hz, hhz⟩ : ∃ hz, 1000 + z % 999999001 = hz := ⟨_, rfl⟩
  rw [hhz] at sk y0 y1
  obtain ⟨A, hA⟩ : ∃ y, abits .and .i64 a 4503599627370495 = y := ⟨_, rfl⟩
  obtain ⟨B, hB⟩ : ∃ y, abits .and .i64 b 4503599627370495 = y := ⟨_, rfl⟩
  have kA : 0 ≤ abits .and .i64 a 4503599627370495 ∧ abits .and .i64 a 4503599627370495 ≤ 4503599627370495 := andM (m := 4503599627370495) (by decide) a
  have kB : 0 ≤ abits .and .i64 b 4503599627370495 ∧ abits .and .i64 b 4503599627370495 ≤ 4503599627370495 := andM (m := 4503599627370495) (by decide) b
  rw [hA] at kA
  rw [hB] at kB
  have al := fun h => alive30 h
  have core : ∀ lo hi : Int, 0 ≤ lo → lo ≤ hi → hi ≤ 4503599627370495 → ∃ x y w r s : Int, W CP 14 [.ptr p 0, .int .i64 lo] H = some (.int .u64 x, H, []) ∧ W CP 14 [.ptr p 0, .int .i64 hi] H = some (.int .u64 y, H, []) ∧ x ≤ y ∧ IntKind.u64.wrap (y - x) = y - x ∧
      IntKind.i64.wrap (hi - lo) = hi - lo ∧ IntKind.u64.wrap (hi - lo) = hi - lo ∧ IntKind.u64.wrap (2 * (hi - lo)) = 2 * (hi - lo) ∧ y - x ≤ 2 * (hi - lo) ∧ IntKind.i64.wrap (lo + 1) = lo + 1 ∧ W CP 14 [.ptr p 0, .int .i64 (lo + 1)] H = some (.int .u64 w, H, []) ∧ IntKind.u64.wrap (w - x) = w - x ∧ w - x ≤ 2 ∧
      W CP 15 [.ptr p 0, .int .i64 lo] H = some (.int .u64 x, H, []) ∧ W CP 16 [.ptr p 0, .int .i64 lo] H = some (.int .i64 r, H, []) ∧ W CP 16 [.ptr p 0, .int .i64 hi] H = some (.int .i64 s, H, []) ∧ r ≤ s := by
    intro lo hi l0 l1 l2
    have t1 := tks_in hP y0 y1 lo
    have t2 := tks_in hP y0 y1 hi
    have t3 := tks_in hP y0 y1 (lo + 1)
    have m1 := tks_mono hP y0 l0 l1 (by omega)
    have m2 := tks_lip hP y0 y1 l0 l1 (by omega)
    have m3 := tks_mono hP y0 l0 (show lo ≤ lo + 1 by omega) (by omega)
    have m4 := tks_lip hP y0 y1 l0 (show lo ≤ lo + 1 by omega) (by omega)
    have er := read_c (t := lo) hG sk
    have e0 : rdV 0 (mkOf 64) (tks hz P lo) = tks hz P lo := by
      unfold rdV
      rw [mk64, Int.zero_add, wr_u64 _ (by omega) (by omega), and_all (by omega) (by omega)]
    rw [e0] at er
    exact ⟨_, _, _, _, _, ticks_c hG sk, ticks_c hG sk, m1, wr_u64 _ (by omega) (by omega), wr_i64 _ (by omega) (by omega), wr_u64 _ (by omega) (by omega), wr_u64 _ (by omega) (by omega), m2, wr_i64 _ (by omega) (by omega), ticks_c hG sk, wr_u64 _ (by omega) (by omega), by omega, er, raw_c hG sk, raw_c hG sk, raw_mono hP y0 l0 l1 (by omega)⟩
  have k0 := ticks_c (t := 0) hG sk
  have k5 := ticks_c (t := -5) hG sk
  rw [tks_0 hP (by decide)] at k0 k5
  by_cases hAB : B < A
  · obtain ⟨x, y, w, r, s, f1, f2, f3, f4, f5, f6, f7, f8, f9, f10, f11, f12, f13, f14, f15, f16⟩ := core B A (by omega) (by omega) (by omega)
    simp (maxDischargeDepth := 9) -implicitDefEqProofs only [push_cast, simprocAttr, M3, nadd1, nadd2, nadd3, nadd4, nadd5, nadd6, nadd7, nadd8, nadd9, nadd10, nadd11, nadd12, nL, nO, eM, hA, hB, hAB, f1, f2, f3, f4, f5, f6, f7, f8, f9, f10, f11, f12, f13, f14, f15, f16, k0, k5, al]
  · obtain ⟨x, y, w, r, s, f1, f2, f3, f4, f5, f6, f7, f8, f9, f10, f11, f12, f13, f14, f15, f16⟩ := core A B (by omega) (by omega) (by omega)
    simp (maxDischargeDepth := 9) -implicitDefEqProofs only [push_cast, simprocAttr, M3, nadd1, nadd2, nadd3, nadd4, nadd5, nadd6, nadd7, nadd8, nadd9, nadd10, nadd11, nadd12, nL, nO, eM, hA, hB, hAB, f1, f2, f3, f4, f5, f6, f7, f8, f9, f10, f11, f12, f13, f14, f15, f16, k0, k5, al]
theorem goes_law (js : AHeap) (avs : List AV) (hx : Ext js) (ht : TyA (CP.gl ++ js) [.one (.i .u32), .one (.sl [.i .u64]), .one (.sl [.i .i32]), .one (.i .i64), .one (.i .i64)] avs) : ∃ h' ws, W CP 3 avs (CP.gl ++ js) = some (.bool true, h', ws) := by
  simp only [TyA] at ht
  obtain ⟨c, _, rfl, hc, v, _, rfl, hv, u, _, rfl, hu, a, _, rfl, ha, b, _, rfl, hb, rfl⟩ := ht
  simp only [Ty] at hc ha hb
  obtain ⟨z, rfl, z0, z1⟩ := hc
  obtain ⟨a, rfl, _, _⟩ := ha
  obtain ⟨b, rfl, _, _⟩ := hb
  have e1 : IntKind.u32.min = 0 := rfl
  have e2 : IntKind.u32.max = 4294967295 := rfl
  refine W_law (m := M3) (fun _ => rfl) rfl (goes_body (good_ext hx) (by omega) (by omega) hv hu) fun h0 => ?_
  simp only [AV.lts, Bool.and_eq_true] at h0
  exact goes_body glG (by omega) (by omega) (ty_nil hv h0.2.1) (ty_nil hu h0.2.2.1)
theorem goes_kinds : aksOf X.P 20 [22, 23, 24, 2, 2] = some [.one (.i .u32), .one (.sl [.i .u64]), .one (.sl [.i .i32]), .one (.i .i64), .one (.i .i64)] := by kernel_rfl
end Go.Proofs.YthcjmmngenogmaaW.AI.E
