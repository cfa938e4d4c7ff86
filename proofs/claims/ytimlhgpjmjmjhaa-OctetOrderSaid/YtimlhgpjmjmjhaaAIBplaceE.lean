import Derived.Test.YtimlhgpjmjmjhaaAIBplaceD
namespace Go.Proofs.YtimlhgpjmjmjhaaW.AI.B
open Go Go.Proofs.YtimlhgpjmjmjhaaW.AI Go.Proofs.YtimlhgpjmjmjhaaW.AI.Oct Go.RowKit
set_option maxRecDepth 100000
set_option linter.unusedSimpArgs false
set_option linter.unusedVariables false
set_option linter.unusedSectionVars false
theorem good_gl : Good CP.gl := rfl
theorem good_ext {js : AHeap} (h : Ext js) : Good (CP.gl ++ js) := good_app good_gl (List.all_eq_true.2 fun x hx => by unfold notOld; rcases h x hx with e | e <;> rw [e])
theorem ty_nil {g g' : AHeap} {l : List CK} {y : AV} (h : Ty g (.sl l) y) (h0 : y.lt 0 = true) : Ty g' (.sl l) y := by
  simp only [Ty] at h ⊢
  rcases h with rfl | ⟨b, n, c, es, rfl, _⟩
  · exact Or.inl rfl
  · simp [AV.lt] at h0
theorem arg_bv {g : AHeap} {v : AV} (hv : Ty g (.sl [.i .u8]) v) : ∃ D, BV g v D ∧ nilOf v ≠ none ∧ D.length ≤ 9223372036854775807 := by
  obtain ⟨es, hs, he⟩ := Ty_sl hv
  have hle := hs.le
  rcases hs with ⟨rfl, rfl⟩ | ⟨b, c, rfl, g1, g2, g3, g4⟩
  · exact ⟨[], BV.nil g, by simp [nilOf], by simp⟩
  · have hl := flat_len (l := [CK.i .u8]) fun e h' => (TyL_lt (he e h')).2.2
    have hl1 : (es.flatten.map toI).length = es.length := by rw [List.length_map, hl]; simp
    refine ⟨es.flatten.map toI, ⟨?_, Or.inr ⟨b, 0, c, .ext, es.flatten.map toI, false, g4, Or.inl rfl, by omega, by rw [List.drop_zero, List.take_length], Or.inl ⟨by rw [hl1], by omega⟩⟩⟩, by simp [nilOf], by omega⟩
    intro x hx
    obtain ⟨a, ha, rfl⟩ := List.mem_map.1 hx
    obtain ⟨e, h1, h2⟩ := List.mem_flatten.1 ha
    have := he e h1
    simp only [TyL, Ty] at this
    obtain ⟨v, vs, rfl, ⟨n, rfl, n1, n2⟩, rfl⟩ := this
    simp only [List.mem_singleton] at h2
    subst h2
    have a : 0 ≤ n := n1
    have b : n ≤ 255 := n2
    exact ⟨a, by show n < 256; omega⟩
theorem awake_c (h : AHeap) : W CP 43 [] h = some (.bool true, h, []) := W_known (n := 60) (fun _ => rfl) (by kernel_rfl) h
/-- What Put told: nothing, or a row of its own. -/
def PX (H0 h : AHeap) (v : AV) (N : Nat) : Prop := (v = .nils ∧ N = 0) ∨ ∃ q l, v = .gsl q 0 N 1 false ∧ h[q]? = some ⟨.tip false, .ints .u8 l⟩ ∧ l.length = N ∧ H0.length ≤ q
structure PI (H0 h : AHeap) (v : AV) (N : Nat) : Prop where
  g : Good h
  low : ∀ (q : Nat) (z : ABlk), H0[q]? = some z → h[q]? = some z
  px : PX H0 h v N
theorem PX.len {H0 h : AHeap} {v : AV} {N : Nat} (p : PX H0 h v N) : slen v = some N := by
  rcases p with ⟨rfl, rfl⟩ | ⟨q, l, rfl, _⟩ <;> rfl
set_option maxHeartbeats 32000000 in
theorem places_body {g : AHeap} (hg : Good g) {bv : AV} (hbv : Ty g (.sl [.i .u8]) bv) {p k n : Int} (p0 : -9223372036854775808 ≤ p) (p1 : p ≤ 9223372036854775807) (n0 : 0 ≤ n) (n1 : n < 18446744073709551616) :
    Wp (xbody (W CP) M9 [bv, .agg [.int .i64 p, .int .i64 k], .int .u64 n] g) fun r => r.1 = .bool true := by
  obtain ⟨Df, bD, _, lD⟩ := arg_bv hbv
  obtain ⟨N, hN⟩ : ∃ N, Df.length = N := ⟨_, rfl⟩
  have hnb := bD.na
  have hlb := bD.len
  rw [hN] at hlb lD
  obtain ⟨m, hm, hm2, hmin⟩ : ∃ m : Nat, m ≤ N ∧ m ≤ 600 ∧ (if (600 : Int) < (N : Int) then (600 : Int) else (N : Int)) = (m : Int) := by
    by_cases hc : 600 < N
    · exact ⟨600, by omega, by omega, by rw [if_pos (by omega)]; rfl⟩
    · exact ⟨N, by omega, by omega, by rw [if_neg (by omega)]⟩
  have e1 := fun h => slcV_hi (h := h) bD (show m ≤ Df.length by omega)
  have bcut := bD.take (show m ≤ Df.length by omega)
  have acut := bcut.na
  have hcl : (Df.take m).length = m := by rw [List.length_take]; omega
  have hB := bcut.1
  obtain ⟨D, hD⟩ : ∃ D, Df.take m = D := ⟨_, rfl⟩
  rw [hD] at bcut hcl hB
  obtain ⟨x, hx⟩ : ∃ x, cutX bv m = x := ⟨_, rfl⟩
  rw [hx] at e1 bcut acut
  clear hx
  have hG1 : Good (g ++ [⟨.tip false, .ints .i64 [p, k]⟩]) := good_app hg rfl
  have bx1 := bcut.app [⟨.tip false, .ints .i64 [p, k]⟩]
  have eO := own_c hG1 bx1 (by omega)
  have bo := own_bv hB (g ++ [⟨.tip false, .ints .i64 [p, k]⟩])
  have so := fun h0 => own_src hB h0 (g ++ [⟨.tip false, .ints .i64 [p, k]⟩])
  have hG2 := good_app hG1 (ownH_notOld D)
  have bx2 := bx1.app (ownH D)
  obtain ⟨oV, hoV⟩ : ∃ z, ownV (g ++ [(⟨.tip false, .ints .i64 [p, k]⟩ : ABlk)]).length D = z := ⟨_, rfl⟩
  obtain ⟨H0, hH0⟩ : ∃ H0, (g ++ [(⟨.tip false, .ints .i64 [p, k]⟩ : ABlk)]) ++ ownH D = H0 := ⟨_, rfl⟩
  have hgl : g.length ≤ H0.length := by rw [← hH0]; simp
  rw [hoV, hH0] at eO bo so
  rw [hH0] at hG2 bx2
  clear hoV hH0
  have ao := bo.na
  have a1 := at_c (k := k) hG2 bo (by omega) p0 p1
  have a2 := refat_c (k := k) hG2 bx2 (by omega) p0 p1
  obtain ⟨av, hav⟩ : ∃ z, atV D p k = z := ⟨_, rfl⟩
  obtain ⟨ab, hab⟩ : ∃ z, atB D p k = z := ⟨_, rfl⟩
  rw [hav, hab] at a1 a2
  -- Put
  obtain ⟨v1, js1, v2, js2, M, E, e3, e4, px, hM, b1, b2, hG3, hG4⟩ : ∃ v1 js1 v2 js2 M E, W CP 46 [oV, .int .i64 p, .int .i64 k, .int .u64 n] H0 = some (.tup [v1, .int .i64 (ptE D p k n)], H0 ++ js1, []) ∧
      W CP 47 [x, .int .i64 p, .int .i64 k, .int .u64 n] (H0 ++ js1) = some (.tup [v2, .int .i64 (ptE D p k n)], (H0 ++ js1) ++ js2, []) ∧ PX H0 ((H0 ++ js1) ++ js2) v1 M ∧ M ≤ 600 ∧ BV ((H0 ++ js1) ++ js2) v1 E ∧ BV ((H0 ++ js1) ++ js2) v2 E ∧ Good (H0 ++ js1) ∧ Good ((H0 ++ js1) ++ js2) := by
    by_cases he : ptE D p k n = 0
    · have hne : D ≠ [] := by
        rintro rfl
        obtain ⟨q, m, rfl, rfl, _, m1, _, _, cp⟩ := ptE_0 he
        simp at cp
        omega
      obtain ⟨q, js1, e3, hq, hql, hG3⟩ := put_good hG2 (so hne) (by omega) n0 n1 he
      obtain ⟨w, js2, e4, b2, hG4⟩ := refput_good (h := H0 ++ js1) hG3 (bx2.app js1) (by omega) n0 n1 he
      have hsl : (splice D p.toNat (dg k.toNat n)).length = D.length := by
        obtain ⟨q, m, rfl, rfl, _, m1, _, _, cp⟩ := ptE_0 he
        rw [Int.toNat_natCast, Int.toNat_natCast]
        unfold splice
        simp [dg_len]
        omega
      have hq2 : ((H0 ++ js1) ++ js2)[q]? = some ⟨.tip false, .ints .u8 (splice D p.toNat (dg k.toNat n))⟩ := by rw [List.getElem?_append_left (List.getElem?_eq_some_iff.1 hq).1]; exact hq
      refine ⟨_, js1, w, js2, D.length, _, by rw [he]; exact e3, by rw [he]; exact e4, Or.inr ⟨q, _, rfl, hq2, hsl, hql⟩, by omega, ?_, b2, hG3, hG4⟩
      exact gsl_bv b2.1 hsl hq2
    · refine ⟨.nils, [], .nils, [], 0, [], ?_, ?_, Or.inl ⟨rfl, rfl⟩, by decide, BV.nil _, BV.nil _, by simpa using hG2, by simpa using hG2⟩
      · rw [List.append_nil]; exact put_bad hG2 bo (by omega) p0 p1 n0 n1 he
      · rw [List.append_nil, List.append_nil]; exact refput_bad hG2 bx2 (by omega) p0 p1 n0 n1 he
  obtain ⟨pe, hpe⟩ : ∃ z, ptE D p k n = z := ⟨_, rfl⟩
  rw [hpe] at e3 e4
  have low : ∀ (q : Nat) (z : ABlk), H0[q]? = some z → ((H0 ++ js1) ++ js2)[q]? = some z := fun q z e => by rw [List.append_assoc, List.getElem?_append_left (List.getElem?_eq_some_iff.1 e).1]; exact e
  have hlH : H0.length ≤ ((H0 ++ js1) ++ js2).length := by simp
  obtain ⟨H2, hH2⟩ : ∃ H2, (H0 ++ js1) ++ js2 = H2 := ⟨_, rfl⟩
  rw [hH2] at e4 px b1 b2 hG4 low hlH
  clear hH2
  have ny1 := b1.na
  have ny2 := b2.na
  have ly1 := px.len
  obtain ⟨s, es, g1, g2⟩ := sg_u (k := k) n0 n1
  have i64r : ∀ z : Int, -9223372036854775808 ≤ IntKind.i64.wrap z ∧ IntKind.i64.wrap z < 9223372036854775808 := fun z => by
    simp only [IntKind.wrap, IntKind.bits, IntKind.signed]
    simp
    split <;> omega
  obtain ⟨wn, hwn⟩ : ∃ z, IntKind.i64.wrap n = z := ⟨_, rfl⟩
  have wr := i64r n
  rw [hwn] at wr
  obtain ⟨u, eu, g3, g4⟩ := ug_u (k := k) wr.1 wr.2
  have eE := equal_c hG4 b1 b2
  rw [decide_eq_true rfl] at eE
  have pi : PI H0 H2 v1 M := ⟨hG4, low, px⟩
  have aw := fun h => awake_c h
  simp (maxDischargeDepth := 9) -implicitDefEqProofs only [push_cast, simprocAttr, M9, nadd1, nadd2, nadd3, nadd4, nadd5, nadd6, nadd7, nadd8, nadd9, nadd10, nadd11, nadd12, hnb, hlb, hmin, ↓slc_eqH, e1, acut, eO, ao, a1, a2, e3, e4, ny1, ny2, g1, g2, g3, g4, hwn, eE, ly1, beq_self_eq_true]
  refine wp_kRes (wp_kSeq (wp_kBlock ?_))
  refine wp_loop (fun j a h' ws => ∃ i : Nat, j = M - i ∧ i ≤ M ∧ a = [(0, x), (9, oV), (14, v1), (26, .bool true), (134, .int .i64 (M : Int)), (135, .int .i64 (i : Int))] ∧ PI H0 h' v1 M ∧ ws = []) M ?_ ?_
  · refine ⟨0, by omega, by omega, ?_, pi, rfl⟩
    simp (maxDischargeDepth := 9) -implicitDefEqProofs only [push_cast, simprocAttr, acut, ao, ny1]; try rfl
  · rintro j aa h' ws ⟨i, rfl, hi, rfl, pi, rfl⟩
    have v2 : IntKind.i64.wrap ((i : Int) + 1) = (i : Int) + 1 := wr_i64 _ (by omega) (by omega)
    by_cases hlt : i < M
    · have hlt' : (i : Int) < (M : Int) := by omega
      rcases pi.px with ⟨_, h0⟩ | ⟨q, l, rfl, hq, hl, hql⟩
      · omega
      have hqh := (List.getElem?_eq_some_iff.1 hq).1
      obtain ⟨d, hd⟩ : ∃ d, l[i]? = some d := ⟨_, List.getElem?_eq_getElem (by omega)⟩
      have hil : i < l.length := by omega
      have hlo : ¬ q < g.length := by omega
      simp (maxDischargeDepth := 9) -implicitDefEqProofs only [push_cast, simprocAttr, nadd1, nadd2, nadd3, nadd4, nadd5, nadd6, nadd7, nadd8, nadd9, nadd10, nadd11, nadd12, hlt, hlt', v2, hq, hqh, hd, hil, hlo, Nat.mul_one]
      refine loop_next (M - (i + 1)) (by omega) ⟨i + 1, rfl, by omega, ?_, ⟨good_set pi.g rfl, fun r z e => ?_, Or.inr ⟨q, l.set i (abits .xor .u8 d 255), rfl, by rw [List.getElem?_set_self hqh], by rw [List.length_set]; exact hl, hql⟩⟩, rfl⟩
      · simp (maxDischargeDepth := 9) -implicitDefEqProofs only [push_cast, simprocAttr, acut, ao]; try simp
      · have := (List.getElem?_eq_some_iff.1 e).1
        rw [List.getElem?_set_ne (by omega)]
        exact pi.low r z e
    · have hnl : ¬ (i : Int) < (M : Int) := by omega
      have eF := equal_c pi.g (bo.keep pi.low) (bx2.keep pi.low)
      rw [decide_eq_true rfl] at eF
      simp (maxDischargeDepth := 9) -implicitDefEqProofs only [push_cast, simprocAttr, nadd1, nadd2, nadd3, nadd4, nadd5, nadd6, nadd7, nadd8, nadd9, nadd10, nadd11, nadd12, hnl, acut, ao, aw, eF]
theorem places_law (js : AHeap) (avs : List AV) (hx : Ext js) (ht : TyA (CP.gl ++ js) [.one (.sl [.i .u8]), .agg [.i .i64, .i .i64], .one (.i .u64)] avs) : ∃ h' ws, W CP 9 avs (CP.gl ++ js) = some (.bool true, h', ws) := by
  simp only [TyA] at ht
  obtain ⟨v, _, rfl, hv, cs, _, rfl, k0, _, _, rfl, hu, rfl⟩ := ht
  simp only [TyL] at k0
  obtain ⟨_, _, rfl, t0, _, _, rfl, t1, rfl⟩ := k0
  simp only [Ty] at hu t0 t1
  obtain ⟨n, rfl, n0, n1⟩ := hu
  obtain ⟨p, rfl, p0, p1⟩ := t0
  obtain ⟨k, rfl, k0, k1⟩ := t1
  have n1' : n < 18446744073709551616 := by have : IntKind.u64.max = 18446744073709551615 := rfl; omega
  refine W_law (m := M9) (fun _ => rfl) rfl (places_body (good_ext hx) hv p0 p1 n0 n1') fun h0 => places_body good_gl (ty_nil hv ?_) p0 p1 n0 n1'
  simp only [AV.lts, Bool.and_eq_true] at h0
  exact h0.1
theorem places_kinds : aksOf X.P 20 [59, 77, 74] = some [.one (.sl [.i .u8]), .agg [.i .i64, .i .i64], .one (.i .u64)] := by kernel_rfl
end Go.Proofs.YtimlhgpjmjmjhaaW.AI.B
