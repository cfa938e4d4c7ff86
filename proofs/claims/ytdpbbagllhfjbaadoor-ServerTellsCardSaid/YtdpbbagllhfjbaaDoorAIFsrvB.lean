import Derived.Test.YtdpbbagllhfjbaaDoorAIFsrv5
import Derived.Test.YtdpbbagllhfjbaaDoorAIFsrva
namespace Go.Proofs.YtdpbbagllhfjbaaDoorW.AI.F
open Go Go.Proofs.YtdpbbagllhfjbaaDoorW.AI Go.Proofs.YtdpbbagllhfjbaaDoorW.AI.Oct
set_option maxRecDepth 100000
set_option linter.unusedSimpArgs false
set_option linter.unusedVariables false
set_option linter.unusedSectionVars false
theorem bv_take {h : AHeap} {v : AV} {D : List Int} {n : Nat} (b : BV h v D) (hv : v.lt n = true) : BV (h.take n) v D := by
  obtain ⟨hB, k | ⟨q, o, c, st, l, mn, e, r1, r2, r3, r4⟩⟩ := b
  · exact ⟨hB, Or.inl k⟩
  · have hq : q < n := by
      rcases r4 with ⟨rfl, _⟩ | rfl <;> simpa [AV.lt] using hv
    exact ⟨hB, Or.inr ⟨q, o, c, st, l, mn, by rw [List.getElem?_take_of_lt hq]; exact e, r1, r2, r3, r4⟩⟩
theorem keeps_take {g H : AHeap} {p : Option Nat} (k : Keeps g H p) (ho : (H.take g.length).all (oldIn g.length) = true) : Keeps g (H.take g.length) p := by
  have hl : (H.take g.length).length = g.length := by rw [List.length_take]; have := k.2.1; omega
  refine ⟨fun q x e h1 h2 => ?_, by omega, fun hg => ?_⟩
  · rw [List.getElem?_take_of_lt (List.getElem?_eq_some_iff.1 e).1]
    exact k.1 q x e h1 h2
  · unfold Good
    rw [hl]
    exact ho
theorem trim_post {g : AHeap} {S : Srv} {p : Nat} {n : Int} {R : Ans} {r : AV × AHeap × List Nat} (hp : p < g.length) (h : AnsPost g S p n R r) : AnsPost g S p n R (trimR g.length r) := by
  unfold trimR
  split
  case isFalse => exact h
  rename_i hc
  simp only [Bool.and_eq_true] at hc
  obtain ⟨⟨hv, _⟩, ho⟩ := hc
  cases R with
  | err e =>
    obtain ⟨h1, h2, h3⟩ := h
    exact ⟨keeps_take h1 ho, h2, h3⟩
  | ok Q =>
    obtain ⟨v, h1, h2, h3, h4, h5⟩ := h
    rw [h1] at hv
    simp only [AV.lt, AV.lts, Bool.and_eq_true] at hv
    exact ⟨v, h1, bv_take h2 hv.1, keeps_take h3 ho, by rw [List.getElem?_take_of_lt hp]; exact h4, h5⟩
section
variable {h : AHeap} {S : Srv} {p : Nat} {n : Int} {b : AV} {D : List Int} {took gave lie leap : Int} {l : List UInt8}
theorem ans_c (ok : S.Ok) (hg : Good h) (ha : At0 h) (hp : h[p]? = some ⟨.tip false, .vals (S.b n)⟩) (n0 : 0 ≤ n) (n1 : n ≤ 1000000) (hb : SV h b D) (hD : D.length < 1000000000)
    (l0 : -9223372036854775808 ≤ lie) (l1 : lie ≤ 9223372036854775807) (t0 : -9223372036854775808 ≤ took) (t1 : took ≤ 9223372036854775807) (g0 : -9223372036854775808 ≤ gave) (g1 : gave ≤ 9223372036854775807) (q0 : 0 ≤ leap) (q1 : leap ≤ 255) :
    ∃ r, W CP 10 [.ptr p 0, b, .int .i64 took, .int .i64 gave, .agg [.int .i64 lie, .int .u8 leap, .str (sb l)]] h = some r ∧ AnsPost h S p n (ansP S D took gave lie leap l) r := by
  obtain ⟨r, e, k⟩ := ans_key ok hg ha hp n0 n1 hb hD l0 l1 t0 t1 g0 g1 q0 q1 (l := l)
  have lp := (List.getElem?_eq_some_iff.1 hp).1
  refine ⟨_, W_body (m := M10) rfl rfl (by simp [AV.lts, AV.lt]) e, ?_⟩
  have ht : M10.trim = true := rfl
  rw [ht, if_pos rfl]
  exact trim_post lp k
theorem rans_c (ok : S.Ok) (hg : Good h) (ha : At0 h) (hp : h[p]? = some ⟨.tip false, .vals (S.b n)⟩) (n0 : 0 ≤ n) (n1 : n ≤ 1000000) (hb : SV h b D) (hD : D.length < 1000000000)
    (l0 : -9223372036854775808 ≤ lie) (l1 : lie ≤ 9223372036854775807) (t0 : -9223372036854775808 ≤ took) (t1 : took ≤ 9223372036854775807) (g0 : -9223372036854775808 ≤ gave) (g1 : gave ≤ 9223372036854775807) (q0 : 0 ≤ leap) (q1 : leap ≤ 255) :
    ∃ r, W CP 11 [.ptr p 0, b, .int .i64 took, .int .i64 gave, .agg [.int .i64 lie, .int .u8 leap, .str (sb l)]] h = some r ∧ AnsPost h S p n (ansP S D took gave lie leap l) r := by
  obtain ⟨r, e, k⟩ := rans_key ok hg ha hp n0 n1 hb hD l0 l1 t0 t1 g0 g1 q0 q1 (l := l)
  have lp := (List.getElem?_eq_some_iff.1 hp).1
  refine ⟨_, W_body (m := M11) rfl rfl (by simp [AV.lts, AV.lt]) e, ?_⟩
  have ht : M11.trim = true := rfl
  rw [ht, if_pos rfl]
  exact trim_post lp k
end
end Go.Proofs.YtdpbbagllhfjbaaDoorW.AI.F
namespace Go.Proofs.YtdpbbagllhfjbaaDoorW.AI.F
open Go Go.Proofs.YtdpbbagllhfjbaaDoorW.AI Go.Proofs.YtdpbbagllhfjbaaDoorW.AI.Oct
set_option maxRecDepth 100000
set_option linter.unusedSimpArgs false
set_option linter.unusedVariables false
set_option linter.unusedSectionVars false
-- ------------------------------------------------------------------ the calls' row
abbrev K6 : List CK := [.sl [.i .u8], .i .i64, .i .i64, .i .i64, .i .u8, .s]
theorem flat6 : ∀ {es : List (List AV)} (h : ∀ e ∈ es, e.length = 6) {i : Nat} {e : List AV}, es[i]? = some e → ∀ j, j < 6 → es.flatten[i * 6 + j]? = e[j]?
  | [], _, i, e, hi, j, _ => by simp at hi
  | x :: es, h, 0, e, hi, j, hj => by
    simp only [List.getElem?_cons_zero, Option.some.injEq] at hi
    subst hi
    have := h x (by simp)
    rw [List.flatten_cons, Nat.zero_mul, Nat.zero_add, List.getElem?_append_left (by omega)]
  | x :: es, h, i + 1, e, hi, j, hj => by
    have hx := h x (by simp)
    rw [List.flatten_cons, List.getElem?_append_right (by omega), hx, show (i + 1) * 6 + j - 6 = i * 6 + j by omega]
    exact flat6 (fun e he => h e (by simp [he])) (by simpa using hi) j hj
theorem call_row {g : AHeap} {v : AV} (hv : Ty g (.sl K6) v) : ∃ N, slen v = some N ∧ N ≤ maxLen ∧ ∀ i, i < N → ∃ (b : AV) (took gave lie leap : Int) (l : List UInt8) (q : Nat), (∀ H, iaV 6 H i (some v) = some (.ptr q (i * 6), H, [])) ∧
    (∀ H, (∀ z, g[q]? = some z → H[q]? = some z) → ldV (some 6) H (some (.ptr q (i * 6))) = some (.agg [b, .int .i64 took, .int .i64 gave, .int .i64 lie, .int .u8 leap, .str (sb l)], H, [])) ∧ Ty g (.sl [.i .u8]) b ∧
    (-9223372036854775808 ≤ took ∧ took ≤ 9223372036854775807) ∧ (-9223372036854775808 ≤ gave ∧ gave ≤ 9223372036854775807) ∧ (-9223372036854775808 ≤ lie ∧ lie ≤ 9223372036854775807) ∧ 0 ≤ leap ∧ leap ≤ 255 := by
  obtain ⟨es, hs, he⟩ := Ty_sl hv
  refine ⟨es.length, hs.len, hs.le, fun i hi => ?_⟩
  rcases hs with ⟨rfl, rfl⟩ | ⟨q, c, rfl, g1, g2, g3, g4⟩
  · simp at hi
  obtain ⟨e, hei⟩ : ∃ e, es[i]? = some e := ⟨_, List.getElem?_eq_getElem hi⟩
  have ht := he e (List.mem_of_getElem? hei)
  have f6 := flat6 (es := es) (fun e he' => (TyL_lt (he e he')).2.2) hei
  have ht2 := ht
  simp only [TyL, Ty] at ht
  obtain ⟨b, _, rfl, k0, _, _, rfl, ⟨took, rfl, a1, a2⟩, _, _, rfl, ⟨gave, rfl, a3, a4⟩, _, _, rfl, ⟨lie, rfl, a5, a6⟩, _, _, rfl, ⟨leap, rfl, a7, a8⟩, _, _, rfl, ⟨s, rfl, _⟩, rfl⟩ := ht
  have e0 := f6 0 (by omega)
  rw [Nat.add_zero] at e0
  have e1 := f6 1 (by omega)
  have e2 := f6 2 (by omega)
  have e3 := f6 3 (by omega)
  have e4 := f6 4 (by omega)
  have e5 := f6 5 (by omega)
  simp only [List.getElem?_cons_zero, List.getElem?_cons_succ] at e0 e1 e2 e3 e4 e5
  have hb : Ty g (.sl [.i .u8]) b := by
    simp only [TyL] at ht2
    obtain ⟨_, _, h1, h2, _⟩ := ht2
    cases h1
    exact h2
  have m1 : IntKind.i64.min = -9223372036854775808 := rfl
  have m2 : IntKind.i64.max = 9223372036854775807 := rfl
  have m3 : IntKind.u8.min = 0 := rfl
  have m4 : IntKind.u8.max = 255 := rfl
  refine ⟨b, took, gave, lie, leap, s.data.toList, q, fun H => by simp [iaV, hi], fun H hH => ?_, hb, ⟨by omega, by omega⟩, ⟨by omega, by omega⟩, ⟨by omega, by omega⟩, by omega, by omega⟩
  have hq := hH _ g4
  have hc : cellsAt H q = some (.vals es.flatten) := by
    unfold cellsAt
    rw [hq]
    rfl
  have hss : sb s.data.toList = s := rfl
  rw [hss]
  simp [ldV, hc, loadA, loadN, ACells.get?, e0, e1, e2, e3, e4, e5]
end Go.Proofs.YtdpbbagllhfjbaaDoorW.AI.F
namespace Go.Proofs.YtdpbbagllhfjbaaDoorW.AI.F
open Go Go.Proofs.YtdpbbagllhfjbaaDoorW.AI Go.Proofs.YtdpbbagllhfjbaaDoorW.AI.Oct
set_option maxRecDepth 100000
set_option linter.unusedSimpArgs false
set_option linter.unusedVariables false
set_option linter.unusedSectionVars false
theorem sc6 (a b c d e f : Int) : scEqs [0, 0, 0, 0, 0, 0] [.int .u8 a, .int .u32 b, .int .u32 c, .int .u64 d, .int .u64 e, .int .i64 f] [.int .u8 a, .int .u32 b, .int .u32 c, .int .u64 d, .int .u64 e, .int .i64 f] = some true := by simp [scEqs, scEq]
theorem app_ownB {H : AHeap} (D : List Int) (hl : D.length ≤ 600) : aappend H (.ints .u8 [0]) 1 .nils (.ints .u8 D) D.length = some (ownV H.length D, H ++ ownH D, []) := by
  by_cases h0 : D = []
  · subst h0
    simp [aappend, ownV_nil, ownH_nil]
  · have h1 : ¬ D.length = 0 := fun e => h0 (List.length_eq_zero_iff.1 e)
    have hr : room D.length 1 = true := by simp only [room, decide_eq_true_eq]; omega
    rw [ownV_ne h0]
    unfold ownH
    rw [if_neg h0]
    simp [aappend, h1, hr, ACells.len, ABlk.new]
set_option maxHeartbeats 16000000 in
theorem stells_body (g : AHeap) (hg : Good g) (ha : At0 g) (v : AV) (hv : Ty g (.sl K6) v) (S : Srv) (s0 : 0 ≤ S.st) (r0 : 0 ≤ S.rid) (r1 : S.rid ≤ 4294967295) (k0 : 0 ≤ S.kid) (k1 : S.kid ≤ 4294967295) :
    Wp (xbody (W CP) M3 [.agg S.l, v] g) fun r => r.1 = .bool true := by
  have aw := fun h => al28 h
  obtain ⟨N, lv, hN, row⟩ := call_row hv
  have nv : noAny (some v) = some v := na_slen lv
  by_cases hb : S.st < 1 ∨ 15 < S.st ∨ S.rho < 0 ∨ 16000000000 < S.rho
  · have e1 := fun h => snew_bad hb h
    have e2 := fun h => rnew_bad s0 hb h
    simp only [Srv.l] at e1 e2
    simp (maxDischargeDepth := 9) -implicitDefEqProofs only [push_cast, simprocAttr, M3, nadd1, nadd2, nadd3, nadd4, nadd5, nadd6, nadd7, nadd8, nadd9, nadd10, nadd11, nadd12, Srv.l, nv, e1, e2, aw]
  have ok : S.Ok := ⟨by omega, by omega, r0, r1, k0, k1, by omega, by omega⟩
  obtain ⟨H1, hH1⟩ : ∃ H, g ++ [(⟨.tip false, .vals S.l⟩ : ABlk)] = H := ⟨_, rfl⟩
  have k1' : Keeps g H1 none := by rw [← hH1]; exact Keeps.app _ _ _ rfl
  have b1 : H1[g.length]? = some ⟨.tip false, .vals S.l⟩ := by rw [← hH1, List.getElem?_append_right (Nat.le_refl _)]; simp
  have l1 := (List.getElem?_eq_some_iff.1 b1).1
  have e1 := snew_ok ok H1
  obtain ⟨H2, hH2⟩ : ∃ H, H1 ++ [(⟨.tip false, .vals S.l⟩ : ABlk), ⟨.tip false, .vals (S.b 0)⟩] = H := ⟨_, rfl⟩
  have k2 : Keeps H1 H2 none := by rw [← hH2]; exact Keeps.app _ _ _ rfl
  have p1b : H2[H1.length + 1]? = some ⟨.tip false, .vals (S.b 0)⟩ := by rw [← hH2, List.getElem?_append_right (by omega)]; simp
  have b2 := kN k2 _ _ b1
  have l2 := (List.getElem?_eq_some_iff.1 b2).1
  have e2 := rnew_ok ok H2
  obtain ⟨H3, hH3⟩ : ∃ H, H2 ++ [(⟨.tip false, .vals S.l⟩ : ABlk), ⟨.tip false, .vals (S.b 0)⟩] = H := ⟨_, rfl⟩
  have k3 : Keeps H2 H3 none := by rw [← hH3]; exact Keeps.app _ _ _ rfl
  have p2b : H3[H2.length + 1]? = some ⟨.tip false, .vals (S.b 0)⟩ := by rw [← hH3, List.getElem?_append_right (by omega)]; simp
  have p1c := kN k3 _ _ p1b
  have b3 := kN k3 _ _ b2
  have hlen1 : g.length < H1.length + 1 := by omega
  have hlen2 : H1.length + 1 < H2.length + 1 := by have := (List.getElem?_eq_some_iff.1 p1b).1; omega
  obtain ⟨p1, hp1⟩ : ∃ z, H1.length + 1 = z := ⟨_, rfl⟩
  obtain ⟨p2, hp2⟩ : ∃ z, H2.length + 1 = z := ⟨_, rfl⟩
  rw [hH2] at e1
  rw [hH3] at e2
  rw [hp1] at e1 p1c hlen1 hlen2
  rw [hp2] at e2 p2b hlen2
  have kg3 := kT k1' (kT k2 k3)
  clear hp1 hp2 p1b
  simp only [Srv.l] at hH1 e1 e2 b1 b2
  simp (maxDischargeDepth := 9) -implicitDefEqProofs only [push_cast, simprocAttr, M3, nadd1, nadd2, nadd3, nadd4, nadd5, nadd6, nadd7, nadd8, nadd9, nadd10, nadd11, nadd12, Srv.l, nv, hH1, b1, l1, e1, b2, l2, e2]
  refine wp_kRes (wp_kSeq (wp_kBlock ?_))
  refine wp_loop (fun k x h' ws => ∃ (i : Nat) (n : Int), k = 20 - i ∧ i ≤ N ∧ i ≤ 20 ∧ x = [(1, v), (2, .ptr g.length 0), (5, .ptr p1 0), (7, .ptr p2 0), (9, .int .i64 (i : Int))] ∧ 0 ≤ n ∧ n ≤ (i : Int) ∧ Keeps g h' none ∧ h'[g.length]? = some ⟨.tip false, .vals S.l⟩ ∧ h'[p1]? = some ⟨.tip false, .vals (S.b n)⟩ ∧ h'[p2]? = some ⟨.tip false, .vals (S.b n)⟩ ∧ ws = []) 20 ?_ ?_
  · refine ⟨0, 0, by omega, by omega, by omega, ?_, by omega, by omega, kg3, b3, p1c, p2b, rfl⟩
    simp (maxDischargeDepth := 9) -implicitDefEqProofs only [push_cast, simprocAttr, nv]; try rfl
  clear hH1 hH2 hH3 k1' k2 k3 kg3 b1 b2 b3 l1 l2 e1 e2 p1c p2b
  rintro k xx h' ws ⟨i, n, rfl, hi1, hi2, rfl, n0, n1, kh, bB, bX, bY, rfl⟩
  have v1 : IntKind.i64.wrap ((i : Int) + 1) = (i : Int) + 1 := wr_i64 _ (by omega) (by omega)
  by_cases hlt : i < N
  case neg =>
    have hlt' : ¬ (i : Int) < (N : Int) := by omega
    simp (maxDischargeDepth := 9) -implicitDefEqProofs only [push_cast, simprocAttr, nadd1, nadd2, nadd3, nadd4, nadd5, nadd6, nadd7, nadd8, nadd9, nadd10, nadd11, nadd12, hlt', nv, lv, aw]
  have hlt' : (i : Int) < (N : Int) := by omega
  by_cases h20 : i < 20
  case neg =>
    have h20' : ¬ (i : Int) < 20 := by omega
    simp (maxDischargeDepth := 9) -implicitDefEqProofs only [push_cast, simprocAttr, nadd1, nadd2, nadd3, nadd4, nadd5, nadd6, nadd7, nadd8, nadd9, nadd10, nadd11, nadd12, hlt', h20', nv, lv, aw]
  have h20' : (i : Int) < 20 := by omega
  obtain ⟨bv, took, gave, lie, leap, l, q, y1, y2, hbv, ⟨t0, t1⟩, ⟨g0, g1⟩, ⟨l0, l1⟩, q0, q1⟩ := row i hlt
  have y2' := y2 h' (fun z hz => kN kh _ _ hz)
  have gl0 : g.length ≤ h'.length := kh.2.1
  have lo0 : ¬ h'.length < g.length := by omega
  obtain ⟨Df, bD, lD, sD⟩ := arg_cut hbv
  obtain ⟨M, hM⟩ : ∃ M, Df.length = M := ⟨_, rfl⟩
  have hnb := bD.na
  have hlb := bD.len
  rw [hM] at hlb lD
  obtain ⟨m, hm, hm2, hmin⟩ : ∃ m : Nat, m ≤ M ∧ m ≤ 600 ∧ (if (600 : Int) < (M : Int) then (600 : Int) else (M : Int)) = (m : Int) := by
    by_cases hc : 600 < M
    · exact ⟨600, by omega, by omega, by rw [if_pos (by omega)]; rfl⟩
    · exact ⟨M, by omega, by omega, by rw [if_neg (by omega)]⟩
  have e1 := fun h => slcV_hi (h := h) bD (show m ≤ Df.length by omega)
  have bcut := bD.take (show m ≤ Df.length by omega)
  have acut := bcut.na
  have lcut := bcut.len
  have sv := sD m (by omega)
  have hcl : (Df.take m).length = m := by rw [List.length_take]; omega
  have hB := bcut.1
  obtain ⟨D, hD⟩ : ∃ D, Df.take m = D := ⟨_, rfl⟩
  rw [hD] at bcut sv hcl hB lcut
  rw [hcl] at lcut
  obtain ⟨x, hx⟩ : ∃ x, cutX bv m = x := ⟨_, rfl⟩
  rw [hx] at e1 bcut acut sv lcut
  clear hx hD
  have hbc : bv.isCell = true := bv_cell bD
  -- the call's box
  obtain ⟨A1, hA1⟩ : ∃ H, h' ++ [(⟨.tip false, .vals [bv, .int .i64 took, .int .i64 gave, .int .i64 lie, .int .u8 leap, .str (sb l)]⟩ : ABlk)] = H := ⟨_, rfl⟩
  have ka1 : Keeps h' A1 none := by rw [← hA1]; exact Keeps.app _ _ _ rfl
  have c1 : A1[h'.length]? = some ⟨.tip false, .vals [bv, .int .i64 took, .int .i64 gave, .int .i64 lie, .int .u8 leap, .str (sb l)]⟩ := by rw [← hA1, List.getElem?_append_right (Nat.le_refl _)]; simp
  have d1 := (List.getElem?_eq_some_iff.1 c1).1
  have kga1 := kT kh ka1
  have bx1 : BV A1 x D := bcut.keep (kN kga1)
  have eN := bx1.new
  have eA := app_ownB (H := A1) D (by omega)
  rw [hcl] at eA
  have hno := ownH_notOld D
  have so := own_sv hB A1
  have bo := own_bv hB A1
  obtain ⟨o, ho⟩ : ∃ z, ownV A1.length D = z := ⟨_, rfl⟩
  obtain ⟨A2, hA2⟩ : ∃ z, A1 ++ ownH D = z := ⟨_, rfl⟩
  have ka2 : Keeps A1 A2 none := by rw [← hA2]; exact Keeps.app _ _ _ hno
  rw [ho, hA2] at eA so bo
  clear ho hA2 hno
  have ao := bo.na
  have kga2 := kT kga1 ka2
  have hG2 := kga2.2.2 hg
  have c2 := kN ka2 _ _ c1
  have d2 := (List.getElem?_eq_some_iff.1 c2).1
  have bX2 := kN (kT ka1 ka2) _ _ bX
  have bY2 := kN (kT ka1 ka2) _ _ bY
  have bB2 := kN (kT ka1 ka2) _ _ bB
  have hAt2 := at0_keep ha kga2
  obtain ⟨rr1, w1, post1⟩ := ans_c (l := l) ok hG2 hAt2 bX2 n0 (by omega) so (by omega) l0 l1 t0 t1 g0 g1 q0 q1
  obtain ⟨u1, A3, ws1⟩ := rr1
  have px : p1 < A2.length := (List.getElem?_eq_some_iff.1 bX2).1
  have npg : ¬ p1 < g.length := by omega
  have npg2 : ¬ p2 < g.length := by omega
  have e12 : p1 ≠ p2 := by omega
  have e1g : p1 ≠ g.length := by omega
  have e2g : p2 ≠ g.length := by omega
  have kb : ∀ {H : AHeap} {v : AV} {L : List Int} {H' : AHeap} {p : Nat} {A : List AV}, BV H v L → Keeps H H' (some p) → H[p]? = some ⟨.tip false, .vals A⟩ → BV H' v L := by
    intro H v L H' p A b k e
    refine b.mono fun q z e' hz hl => k.1 q z e' (fun j _ => ?_) fun hq => ?_
    · rcases hl with hl | ⟨o', hl⟩ <;> rw [hl] <;> simp
    · cases hq
      rw [e] at e'
      cases e'
      obtain ⟨l', hz⟩ := hz
      cases hz
  have kv : ∀ {H H' : AHeap} {p q : Nat} {A : List AV}, Keeps H H' (some p) → p ≠ q → H[q]? = some ⟨.tip false, .vals A⟩ → H'[q]? = some ⟨.tip false, .vals A⟩ := by
    intro H H' p q A k hq e
    exact k.1 q _ e (fun j _ => by simp) (fun h => hq (by cases h; rfl))
  have ehp1 : p1 ≠ h'.length := by have := (List.getElem?_eq_some_iff.1 bX).1; omega
  have ehp2 : p2 ≠ h'.length := by have := (List.getElem?_eq_some_iff.1 bY).1; omega
  have bx2 := bcut.keep (kN kga2)
  obtain ⟨z1, z2, er, E, A3, A4, n', V1, V2, w1, w2, hws, f1, f2, m0, m1, f3, f4, kga4, f5, f6, f7, f8, f9⟩ : ∃ (z1 z2 : AV) (er : Int) (E : List Int) (A3 A4 : AHeap) (n' : Int) (V1 V2 : List Nat), W CP 10 [.ptr p1 0, o, .int .i64 took, .int .i64 gave, .agg [.int .i64 lie, .int .u8 leap, .str (sb l)]] A2 = some (.tup [z1, .int .i64 er], A3, V1) ∧ W CP 11 [.ptr p2 0, x, .int .i64 took, .int .i64 gave, .agg [.int .i64 lie, .int .u8 leap, .str (sb l)]] A3 = some (.tup [z2, .int .i64 er], A4, V2) ∧ (V1 = [] ∧ V2 = [] ∨ V1 = [p1] ∧ V2 = [p2]) ∧ BV A4 z1 E ∧ BV A4 z2 E ∧ n ≤ n' ∧ n' ≤ n + 1 ∧ A4[p1]? = some ⟨.tip false, .vals (S.b n')⟩ ∧ A4[p2]? = some ⟨.tip false, .vals (S.b n')⟩ ∧ Keeps g A4 none ∧ A4[g.length]? = some ⟨.tip false, .vals S.l⟩ ∧ BV A4 o D ∧ BV A4 x D ∧ A3[h'.length]? = some ⟨.tip false, .vals [bv, .int .i64 took, .int .i64 gave, .int .i64 lie, .int .u8 leap, .str (sb l)]⟩ ∧ A4[h'.length]? = some ⟨.tip false, .vals [bv, .int .i64 took, .int .i64 gave, .int .i64 lie, .int .u8 leap, .str (sb l)]⟩ := by
    cases hR : ansP S D took gave lie leap l with
    | err e =>
      rw [hR] at post1
      obtain ⟨k3, h1, h2⟩ := post1
      simp only at k3 h1 h2
      subst h1 h2
      have kga3 := kT kga2 k3
      have hG3 := kga3.2.2 hg
      have hAt3 := at0_keep ha kga3
      have sv3 : SV A3 x D := by obtain ⟨js, rfl⟩ := kga3.behind; exact sv.app' js
      obtain ⟨rr2, w2, post2⟩ := rans_c (l := l) ok hG3 hAt3 (kN k3 _ _ bY2) n0 (by omega) sv3 (by omega) l0 l1 t0 t1 g0 g1 q0 q1
      obtain ⟨u2, A4, ws2⟩ := rr2
      rw [hR] at post2
      obtain ⟨k4, h1, h2⟩ := post2
      simp only at k4 h1 h2
      subst h1 h2
      have k34 := kT k3 k4
      exact ⟨.nils, .nils, e, [], A3, A4, n, [], [], w1, w2, Or.inl ⟨rfl, rfl⟩, BV.nil _, BV.nil _, by omega, by omega, kN k34 _ _ bX2, kN k34 _ _ bY2, kT kga2 k34, kN k34 _ _ bB2, bo.keep (kN k34), bx2.keep (kN k34), kN k3 _ _ c2, kN k34 _ _ c2⟩
    | ok Q =>
      rw [hR] at post1
      obtain ⟨w, h1, h2, h3, h4, h5⟩ := post1
      simp only at h1 h2 h3 h4 h5
      subst h1 h5
      have kga3 : Keeps g A3 none := keeps_own hg kga2 h3 (fun q hq => by cases hq; omega)
      have hG3 := kga3.2.2 hg
      have hAt3 := at0_keep ha kga3
      have sv3 : SV A3 x D := by obtain ⟨js, rfl⟩ := kga3.behind; exact sv.app' js
      have bY3 := kv h3 e12 bY2
      obtain ⟨rr2, w2, post2⟩ := rans_c (l := l) ok hG3 hAt3 bY3 n0 (by omega) sv3 (by omega) l0 l1 t0 t1 g0 g1 q0 q1
      obtain ⟨u2, A4, ws2⟩ := rr2
      rw [hR] at post2
      obtain ⟨w', h1, h2', h3', h4', h5⟩ := post2
      simp only at h1 h2' h3' h4' h5
      subst h1 h5
      exact ⟨w, w', 0, putP Q [], A3, A4, n + 1, [p1], [p2], w1, w2, Or.inr ⟨rfl, rfl⟩, kb h2 h3' bY3, h2', by omega, by omega, kv h3' (Ne.symm e12) h4, h4', keeps_own hg kga3 h3' (fun q hq => by cases hq; omega), kv h3' e2g (kv h3 e1g bB2), kb (kb bo h3 bX2) h3' bY3, kb (kb bx2 h3 bX2) h3' bY3, kv h3 ehp1 c2, kv h3' ehp2 (kv h3 ehp1 c2)⟩
  have hG4 := kga4.2.2 hg
  have d3 := (List.getElem?_eq_some_iff.1 f8).1
  have d4 := (List.getElem?_eq_some_iff.1 f9).1
  have d5 := (List.getElem?_eq_some_iff.1 f5).1
  have d6 := (List.getElem?_eq_some_iff.1 f4).1
  have s1 := served_c hG4 f3 ok.1
  have s2 := setup_c hG4 f3 ok.1
  have t1 := f1.cstr
  have t2 := f2.cstr
  have t3 := f6.cstr
  have t4 := f7.cstr
  have na1 := f1.na
  have na2 := f2.na
  have f5' := f5
  simp only [Srv.l] at f5 s2
  have f4' := f4
  simp only [Srv.b] at f4'
  have d7 : ¬ A4.length ≤ p2 := by omega
  have d8 : ¬ A4.length ≤ g.length := by omega
  rcases hws with ⟨rfl, rfl⟩ | ⟨rfl, rfl⟩
  · simp (maxDischargeDepth := 9) -implicitDefEqProofs only [push_cast, simprocAttr, nadd1, nadd2, nadd3, nadd4, nadd5, nadd6, nadd7, nadd8, nadd9, nadd10, nadd11, nadd12, hlt', h20', v1, nv, lv, ↓ia_eq, y1, ↓ldv_eq 52, y2', hA1, hbc, c1, d1, hnb, hlb, hmin, ↓slc_eqH, e1, acut, lcut, eN, eA, ao, c2, d2, w1, f8, d3, w2, ↓cstr_eq, t1, t2, t3, t4, na1, na2, s1, f4', d6, s2, f5, d5, d7, d8, sc6, npg, npg2, lo0, decide_false, Bool.not_false, Bool.and_true]
    refine loop_next (20 - (i + 1)) (by omega) ⟨i + 1, n', rfl, by omega, by omega, ?_, by omega, by omega, kga4, f5', f3, f4, ?_⟩
    · simp (maxDischargeDepth := 9) -implicitDefEqProofs only [push_cast, simprocAttr, v1, nv]; try simp
    · simp [npg, npg2]
  · simp (maxDischargeDepth := 9) -implicitDefEqProofs only [push_cast, simprocAttr, nadd1, nadd2, nadd3, nadd4, nadd5, nadd6, nadd7, nadd8, nadd9, nadd10, nadd11, nadd12, hlt', h20', v1, nv, lv, ↓ia_eq, y1, ↓ldv_eq 52, y2', hA1, hbc, c1, d1, hnb, hlb, hmin, ↓slc_eqH, e1, acut, lcut, eN, eA, ao, c2, d2, w1, f8, d3, w2, ↓cstr_eq, t1, t2, t3, t4, na1, na2, s1, f4', d6, s2, f5, d5, d7, d8, sc6, npg, npg2, lo0, decide_false, Bool.not_false, Bool.and_true]
    refine loop_next (20 - (i + 1)) (by omega) ⟨i + 1, n', rfl, by omega, by omega, ?_, by omega, by omega, kga4, f5', f3, f4, ?_⟩
    · simp (maxDischargeDepth := 9) -implicitDefEqProofs only [push_cast, simprocAttr, v1, nv]; try simp
    · simp [npg, npg2]
end Go.Proofs.YtdpbbagllhfjbaaDoorW.AI.F
namespace Go.Proofs.YtdpbbagllhfjbaaDoorW.AI.F
open Go Go.Proofs.YtdpbbagllhfjbaaDoorW.AI Go.Proofs.YtdpbbagllhfjbaaDoorW.AI.Oct Go.RowKit
set_option maxRecDepth 100000
set_option linter.unusedSimpArgs false
set_option linter.unusedVariables false
set_option linter.unusedSectionVars false
theorem stells_law (js : AHeap) (avs : List AV) (hx : Ext js) (ht : TyA (CP.gl ++ js) [.agg [.i .u8, .i .u32, .i .u32, .i .u64, .i .u64, .i .i64], .one (.sl K6)] avs) : ∃ h' ws, W CP 3 avs (CP.gl ++ js) = some (.bool true, h', ws) := by
  simp only [TyA] at ht
  obtain ⟨cs1, _, rfl, k1, v, _, rfl, k0, rfl⟩ := ht
  simp only [TyL, Ty] at k1
  obtain ⟨_, _, rfl, ⟨n1, rfl, a1, b1⟩, _, _, rfl, ⟨n2, rfl, a2, b2⟩, _, _, rfl, ⟨n3, rfl, a3, b3⟩, _, _, rfl, ⟨n4, rfl, a4, b4⟩, _, _, rfl, ⟨n5, rfl, a5, b5⟩, _, _, rfl, ⟨n6, rfl, a6, b6⟩, rfl⟩ := k1
  have m1 : IntKind.u8.min = 0 := rfl
  have m2 : IntKind.u32.min = 0 := rfl
  have m3 : IntKind.u32.max = 4294967295 := rfl
  rw [m1] at a1
  rw [m2] at a2 a3
  rw [m3] at b2 b3
  refine W_law (m := M3) (fun _ => rfl) rfl ?_ fun h0 => ?_
  · exact stells_body _ (pgood_ext hx) (at0_ext hx) v k0 ⟨n1, n2, n3, n4, n5, n6⟩ (by dsimp only; omega) (by dsimp only; omega) (by dsimp only; omega) (by dsimp only; omega) (by dsimp only; omega)
  · simp only [AV.lts, Bool.and_eq_true] at h0
    exact stells_body _ pgood_gl at0_gl v (ty_nil (g' := CP.gl) k0 h0.2.1) ⟨n1, n2, n3, n4, n5, n6⟩ (by dsimp only; omega) (by dsimp only; omega) (by dsimp only; omega) (by dsimp only; omega) (by dsimp only; omega)
theorem stells_kinds : aksOf X.P 20 [27, 28] = some [.agg [.i .u8, .i .u32, .i .u32, .i .u64, .i .u64, .i .i64], .one (.sl K6)] := by kernel_rfl
end Go.Proofs.YtdpbbagllhfjbaaDoorW.AI.F
