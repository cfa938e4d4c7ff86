import Derived.Test.YtdbdmnhnijpdcaaDoorAICpktl3
import Derived.Test.YtdbdmnhnijpdcaaDoorAICpktB
namespace Go.Proofs.YtdbdmnhnijpdcaaDoorW.AI.C
open Go Go.Proofs.YtdbdmnhnijpdcaaDoorW.AI Go.Proofs.YtdbdmnhnijpdcaaDoorW.AI.Oct Go.RowKit
set_option maxRecDepth 100000
set_option linter.unusedSimpArgs false
set_option linter.unusedVariables false
set_option linter.unusedSectionVars false
/-- The fields of a packet, made few, over any heap. -/
theorem few_any {H : AHeap} (hg : Good H) {P : Pk} {x : AV} {F0 : List (Int × List Int)} {A0 : List AV} (row0 : RowX H x F0 A0) :
    ∃ v js F A, F = fewX F0 ∧ W CP 30 [.agg (P.l x)] H = some (.agg (P.l v), H ++ js, []) ∧ RowX (H ++ js) v F A ∧ Good (H ++ js) ∧ F.length ≤ 12 ∧ (∀ z ∈ F, z.2.length ≤ 600) ∧ v.isCell = true ∧ noAny (some v) = some v ∧
      ∃ b, blkS v = some b ∧ H.length ≤ b ∧ b < (H ++ js).length ∧ v.lt (H ++ js).length = true := by
  obtain ⟨v, js, A, eF, row1, hG1, p, hp, hpl⟩ := pfew_c (P := P) hg row0
  refine ⟨v, js, fewX F0, A, rfl, eF, row1, hG1, by rw [fewX_len]; omega, fewX_lens F0, row_cell row1, na_slen row1.xr.len, ?_⟩
  rcases row1.sh with ⟨rfl, _⟩ | ⟨b, c, st, mn, e, hb, _⟩
  · cases hp
  · have hbl := (List.getElem?_eq_some_iff.1 hb).1
    rcases e with ⟨e, _⟩ | e
    · subst e; cases hp
      exact ⟨_, rfl, hpl, hbl, by simpa [AV.lt] using hbl⟩
    · subst e; cases hp
      exact ⟨_, rfl, hpl, hbl, by simpa [AV.lt] using hbl⟩
set_option maxHeartbeats 64000000 in
theorem pputs_body {g : AHeap} (hg : Good g) (ha : At0 g) {P Q : Pk} (okP : P.Ok) (okQ : Q.Ok) {x z : AV} (hx : Ty g (.sl [.i .u16, .sl [.i .u8]]) x) (hz : Ty g (.sl [.i .u16, .sl [.i .u8]]) z) {id A B : Int} (i0 : 0 ≤ id) (i1 : id ≤ 4294967295) :
    Wp (xbody (W CP) M12 [.agg (P.l x), .agg (Q.l z), .agg [.int .u32 id, .int .u64 A, .int .u64 B]] g) fun r => r.1 = .bool true := by
  obtain ⟨Fx, Ax, rowx⟩ := RowX.ty_gl hx
  obtain ⟨Fz, Az, rowz⟩ := RowX.ty_gl hz
  have hxc := row_cell rowx
  have hzc := row_cell rowz
  have hnx := na_slen rowx.xr.len
  have hnz := na_slen rowz.xr.len
  obtain ⟨B0, hB0⟩ : ∃ B0 : AHeap, [⟨.tip false, .vals (P.l x)⟩, ⟨.tip false, .vals (Q.l z)⟩, ⟨.tip false, .vals [.int .u32 id, .int .u64 A, .int .u64 B]⟩] = B0 := ⟨_, rfl⟩
  have hGB : Good (g ++ B0) := good_app hg (by rw [← hB0]; rfl)
  have hlB : (g ++ B0).length = g.length + 3 := by rw [← hB0]; simp
  obtain ⟨v, js1, F, AF, hF, eF, rowv, hG1, hF12, hFl, hvc, hnv, bv, hbv, hbv1, hbv2, hvlt⟩ := few_any (P := P) hGB (rowx.app B0)
  obtain ⟨w, js2, G, AG, hG, eG, roww, hG2, hG12, hGl, hwc, hnw, bw, hbw, hbw1, hbw2, hwlt⟩ := few_any (P := Q) hG1 ((rowz.app B0).app js1)
  have rowv2 := rowv.app js2
  have ha2 := ((ha.app B0).app js1).app js2
  have hc2 : (((g ++ B0) ++ js1) ++ js2)[g.length]? = some ⟨.tip false, .vals (P.l x)⟩ := by rw [List.append_assoc, List.append_assoc, ← hB0]; exact end_get _ _ _
  have hd2 : (((g ++ B0) ++ js1) ++ js2)[g.length + 1]? = some ⟨.tip false, .vals (Q.l z)⟩ := by rw [List.append_assoc, List.append_assoc, ← hB0, List.getElem?_append_right (by omega)]; simp
  have hk2 : (((g ++ B0) ++ js1) ++ js2)[g.length + 2]? = some ⟨.tip false, .vals [.int .u32 id, .int .u64 A, .int .u64 B]⟩ := by rw [List.append_assoc, List.append_assoc, ← hB0, List.getElem?_append_right (by omega)]; simp
  have hd1 : ((g ++ B0) ++ js1)[g.length + 1]? = some ⟨.tip false, .vals (Q.l z)⟩ := by rw [List.append_assoc, ← hB0, List.getElem?_append_right (by omega)]; simp
  have hl1 : (g ++ B0).length ≤ ((g ++ B0) ++ js1).length := by simp
  have hl2 : ((g ++ B0) ++ js1).length ≤ (((g ++ B0) ++ js1) ++ js2).length := by simp
  obtain ⟨H1, hH1⟩ : ∃ H1, (g ++ B0) ++ js1 = H1 := ⟨_, rfl⟩
  rw [hH1] at eF eG hbw1 hd1 hc2 hd2 hk2 hbv2 hl1 hl2 rowv2 ha2 roww hG2 hbw2 hwlt hvlt
  obtain ⟨H2, hH2⟩ : ∃ H2, H1 ++ js2 = H2 := ⟨_, rfl⟩
  rw [hH2] at eG hc2 hd2 hk2 hl2 rowv2 ha2 roww hG2 hbw2 hwlt
  rw [hlB] at hl1 hbv1
  have c2 := (List.getElem?_eq_some_iff.1 hc2).1
  have d2 := (List.getElem?_eq_some_iff.1 hd2).1
  have k2 := (List.getElem?_eq_some_iff.1 hk2).1
  have d1 := (List.getElem?_eq_some_iff.1 hd1).1
  -- both are stored
  have rowv3 := rowv2.set_vals (B := P.l v) hc2 (fun p e => by rw [hbv] at e; cases e; omega)
  have roww3 := roww.set_vals (B := P.l v) hc2 (fun p e => by rw [hbw] at e; cases e; omega)
  have hd3 : (H2.set g.length ⟨.tip false, .vals (P.l v)⟩)[g.length + 1]? = some ⟨.tip false, .vals (Q.l z)⟩ := by rw [List.getElem?_set_ne (by omega)]; exact hd2
  have rowv4 := rowv3.set_vals (B := Q.l w) hd3 (fun p e => by rw [hbv] at e; cases e; omega)
  have roww4 := roww3.set_vals (B := Q.l w) hd3 (fun p e => by rw [hbw] at e; cases e; omega)
  have hGX : Good ((H2.set g.length ⟨.tip false, .vals (P.l v)⟩).set (g.length + 1) ⟨.tip false, .vals (Q.l w)⟩) := good_set (good_set hG2 rfl) rfl
  have haX : At0 ((H2.set g.length ⟨.tip false, .vals (P.l v)⟩).set (g.length + 1) ⟨.tip false, .vals (Q.l w)⟩) := ⟨by
    have := ha.2
    rw [List.getElem?_set_ne (by omega), List.getElem?_set_ne (by omega)]; exact ha2.1, by rw [List.length_set, List.length_set]; exact ha2.2⟩
  have hcX : ((H2.set g.length ⟨.tip false, .vals (P.l v)⟩).set (g.length + 1) ⟨.tip false, .vals (Q.l w)⟩)[g.length]? = some ⟨.tip false, .vals (P.l v)⟩ := by rw [List.getElem?_set_ne (by omega), List.getElem?_set_self c2]
  have hdX : ((H2.set g.length ⟨.tip false, .vals (P.l v)⟩).set (g.length + 1) ⟨.tip false, .vals (Q.l w)⟩)[g.length + 1]? = some ⟨.tip false, .vals (Q.l w)⟩ := by rw [List.getElem?_set_self (by rw [List.length_set]; exact d2)]
  have hkX : ((H2.set g.length ⟨.tip false, .vals (P.l v)⟩).set (g.length + 1) ⟨.tip false, .vals (Q.l w)⟩)[g.length + 2]? = some ⟨.tip false, .vals [.int .u32 id, .int .u64 A, .int .u64 B]⟩ := by rw [List.getElem?_set_ne (by omega), List.getElem?_set_ne (by omega)]; exact hk2
  have hlX : H2.length = ((H2.set g.length ⟨.tip false, .vals (P.l v)⟩).set (g.length + 1) ⟨.tip false, .vals (Q.l w)⟩).length := by simp
  obtain ⟨Y, hY⟩ : ∃ Y, (H2.set g.length ⟨.tip false, .vals (P.l v)⟩).set (g.length + 1) ⟨.tip false, .vals (Q.l w)⟩ = Y := ⟨_, rfl⟩
  rw [hY] at rowv4 roww4 hGX haX hcX hdX hkX hlX
  have hFl2 : ∀ z ∈ F, z.2.length < 1000000000 := fun z hz => by have := hFl z hz; omega
  have hGl2 : ∀ z ∈ G, z.2.length < 1000000000 := fun z hz => by have := hGl z hz; omega
  have vX : v.lt Y.length = true := AV.lt_mono (by rw [← hlX]; exact hl2) _ hvlt
  -- Put
  obtain ⟨b, js3, eB, bB, hG3⟩ := put_u okP (by omega) hFl2 hvc hGX haX rowv4.xr
  obtain ⟨Y3, hY3⟩ : ∃ Y3, Y ++ js3 = Y3 := ⟨_, rfl⟩
  have low3 : ∀ (q : Nat) (y : ABlk), Y[q]? = some y → Y3[q]? = some y := fun q y e => by rw [← hY3, List.getElem?_append_left (List.getElem?_eq_some_iff.1 e).1]; exact e
  have ex3 := rowv4.xr.app js3
  rw [hY3] at eB bB hG3 ex3
  obtain ⟨c, js4, eC, bC, hG4⟩ := refput_u okP (by omega) hFl2 hvc hG3 ex3
  have bB4 := bB.app js4
  have ex4 := ex3.app js4
  have ew4 := (roww4.xr.app js3).app js4
  have ha4 := (haX.app js3).app js4
  rw [hY3] at ew4 ha4
  obtain ⟨Y4, hY4⟩ : ∃ Y4, Y3 ++ js4 = Y4 := ⟨_, rfl⟩
  rw [hY4] at eC bC hG4 bB4 ex4 ew4 ha4
  have low4 : ∀ (q : Nat) (y : ABlk), Y[q]? = some y → Y4[q]? = some y := fun q y e => by rw [← hY4, List.getElem?_append_left (List.getElem?_eq_some_iff.1 (low3 q y e)).1]; exact low3 q y e
  have l34 : Y.length ≤ Y4.length := by rw [← hY4, ← hY3]; simp
  have l33 : Y.length ≤ Y3.length := by rw [← hY3]; simp
  have nb := bB.na
  have nc := bC.na
  have hc3 := low3 _ _ hcX
  have hc4 := low4 _ _ hcX
  have hd4 := low4 _ _ hdX
  have hk4 := low4 _ _ hkX
  have mc3 := (List.getElem?_eq_some_iff.1 hc3).1
  have mc4 := (List.getElem?_eq_some_iff.1 hc4).1
  have md4 := (List.getElem?_eq_some_iff.1 hd4).1
  have mk4 := (List.getElem?_eq_some_iff.1 hk4).1
  have mcX := (List.getElem?_eq_some_iff.1 hcX).1
  have mdX := (List.getElem?_eq_some_iff.1 hdX).1
  have mkX := (List.getElem?_eq_some_iff.1 hkX).1
  have vlt4 : v.lt Y4.length = true := AV.lt_mono l34 _ vX
  -- Sign
  have eS1 := sign_u (P := P) (A := A) (B := B) okP i0 i1 (by omega) hFl2 hvc hG4 ha4 ex4 vlt4
  obtain ⟨ES, hES⟩ : ∃ e, putE (sgP P id 0) F = e := ⟨_, rfl⟩
  obtain ⟨S, hS⟩ : ∃ S, signS P F id A B = S := ⟨_, rfl⟩
  obtain ⟨y, hy⟩ : ∃ y, signX P F id v = y := ⟨_, rfl⟩
  obtain ⟨FS, hFS⟩ : ∃ FS, signF P F id = FS := ⟨_, rfl⟩
  have okS := signS_ok (F := F) (A := A) (B := B) okP i0 i1
  have hyc := signX_cell (P := P) (F := F) (id := id) hvc
  have exS := fun {h : AHeap} (e : ExtAt h v F) => signX_at (P := P) (id := id) e
  have hylt := signX_lt (P := P) (F := F) (id := id) vlt4
  have hFS1 : FS.length ≤ 12 := by rw [← hFS]; exact Nat.le_trans signF_len hF12
  have hFS2 : ∀ z ∈ FS, z.2.length < 1000000000 := fun z hz => hFl2 z (signF_mem (by rw [hFS]; exact hz))
  have hny := na_slen (exS ex4).len
  have hG5 : Good (Y4 ++ [⟨.tip false, .vals (S.l y)⟩]) := good_app hG4 rfl
  have hG6 : Good (Y4 ++ [⟨.tip false, .vals (S.l y)⟩, ⟨.tip false, .vals (S.l y)⟩]) := good_app hG4 rfl
  have eS2 := refsign_u (P := P) (A := A) (B := B) okP i0 i1 (by omega) hFl2 hvc hG5 (ex4.app _) (AV.lt_mono (by simp) _ vlt4)
  rw [hES, hS, hy] at eS1 eS2
  rw [hS] at okS
  rw [hy] at hyc hylt hny
  -- what is compared
  have aw := fun h => awake_c h
  have eE := equal_c hG6 (bB4.app [⟨.tip false, .vals (S.l y)⟩, ⟨.tip false, .vals (S.l y)⟩]) (bC.app _)
  rw [decide_eq_true rfl] at eE
  have exF := ex4.app [⟨.tip false, .vals (S.l y)⟩, ⟨.tip false, .vals (S.l y)⟩]
  have exG := ew4.app [⟨.tip false, .vals (S.l y)⟩, ⟨.tip false, .vals (S.l y)⟩]
  have exY := exS exF
  rw [hy, hFS] at exY
  have eRS := refpsame_c (P := S) (Q := S) okS okS exY hyc exY hyc hG6 (by omega)
  rw [sameP_self] at eRS
  have eM1 := pmay_c (P := P) exF hvc hG6 (by omega) hFl2
  have eM2 := refpmay_c (P := P) exF hvc hG6 (by omega) hFl2
  have eQ1 := psame_c (P := P) (Q := Q) exF hvc exG hwc hG6 (by omega)
  have eQ2 := refpsame_c (P := P) (Q := Q) okP okQ exF hvc exG hwc hG6 (by omega)
  obtain ⟨rM, hrM⟩ : ∃ r, mayP P F = r := ⟨_, rfl⟩
  obtain ⟨rQ, hrQ⟩ : ∃ r, sameP P Q F G = r := ⟨_, rfl⟩
  rw [hrM] at eM1 eM2
  rw [hrQ] at eQ1 eQ2
  have row6 := ((rowv4.app js3).app js4).app [⟨.tip false, .vals (S.l y)⟩, ⟨.tip false, .vals (S.l y)⟩]
  rw [hY3, hY4] at row6
  obtain ⟨v2, js5, F2, A2, hF2, eF2, row2, hG7, _, _, hv2c, hnv2, _⟩ := few_any (P := P) hG6 row6
  rw [hF, fewX_twice, ← hF] at hF2
  rw [hF2] at row2
  have exF7 := exF.app js5
  have exY7 := exY.app js5
  have ha7 := (ha4.app [⟨.tip false, .vals (S.l y)⟩, ⟨.tip false, .vals (S.l y)⟩]).app js5
  have hT : ∀ k : Nat, k < 2 → ((Y4 ++ [(⟨.tip false, .vals (S.l y)⟩ : ABlk), ⟨.tip false, .vals (S.l y)⟩]) ++ js5)[Y4.length + k]? = some ⟨.tip false, .vals (S.l y)⟩ := fun k hk => by
    rw [List.append_assoc, List.getElem?_append_right (by omega)]
    rcases (show k = 0 ∨ k = 1 by omega) with rfl | rfl <;> simp
  have hT0 := hT 0 (by omega)
  rw [Nat.add_zero] at hT0
  have low7 : ∀ (q : Nat) (z : ABlk), Y4[q]? = some z → ((Y4 ++ [(⟨.tip false, .vals (S.l y)⟩ : ABlk), ⟨.tip false, .vals (S.l y)⟩]) ++ js5)[q]? = some z := fun q z e => by rw [List.append_assoc, List.getElem?_append_left (List.getElem?_eq_some_iff.1 e).1]; exact e
  have hc7 := low7 _ _ hc4
  have hk7 := low7 _ _ hk4
  have l47 : Y4.length + 2 ≤ ((Y4 ++ [(⟨.tip false, .vals (S.l y)⟩ : ABlk), ⟨.tip false, .vals (S.l y)⟩]) ++ js5).length := by simp
  obtain ⟨Y7, hY7⟩ : ∃ Y7, (Y4 ++ [(⟨.tip false, .vals (S.l y)⟩ : ABlk), ⟨.tip false, .vals (S.l y)⟩]) ++ js5 = Y7 := ⟨_, rfl⟩
  rw [hY7] at eF2 row2 hG7 exF7 exY7 ha7 hT0 hc7 hk7 l47
  have eQ3 := psame_c (P := P) (Q := P) exF7 hvc row2.xr hv2c hG7 (by omega)
  rw [sameP_self] at eQ3
  have eR1 := pright_c (P := P) (id := id) (A := A) (B := B) okP (by omega) hFl2 hvc hG7 ha7 exF7
  have eR2 := refright_c (P := P) (id := id) (A := A) (B := B) okP i0 i1 (by omega) hFl2 hvc hG7 exF7 (AV.lt_mono (by omega) _ vlt4)
  have eR3 := pright_c (P := S) (id := id) (A := A) (B := B) okS (by omega) hFS2 hyc hG7 ha7 exY7
  have eR4 := refright_c (P := S) (id := id) (A := A) (B := B) okS i0 i1 (by omega) hFS2 hyc hG7 exY7 (AV.lt_mono (by omega) _ hylt)
  obtain ⟨r1, hr1⟩ : ∃ r, rightP P F id A B = r := ⟨_, rfl⟩
  obtain ⟨r2, hr2⟩ : ∃ r, rightP S FS id A B = r := ⟨_, rfl⟩
  rw [hr1] at eR1 eR2
  rw [hr2] at eR3 eR4
  have eBp := hB0
  have q1 : ¬ g.length + 1 = g.length := by omega
  have q2 : ¬ g.length = g.length + 1 := by omega
  have q3 : ¬ g.length + 2 = g.length := by omega
  have q4 : ¬ g.length + 2 = g.length + 1 := by omega
  have lo4 : ¬ Y4.length < g.length := by omega
  have lo4b : ¬ Y4.length + 1 < g.length := by omega
  have mT0 : Y4.length < Y7.length := by omega
  have mc7 := (List.getElem?_eq_some_iff.1 hc7).1
  have mk7 := (List.getElem?_eq_some_iff.1 hk7).1
  have u1 : ¬ H1.length ≤ g.length := by omega
  have u2 : ¬ H1.length ≤ g.length + 1 := by omega
  have u3 : ¬ Y7.length ≤ g.length := by omega
  have u4 : ¬ Y7.length ≤ g.length + 2 := by omega
  have u5 : ¬ Y7.length ≤ Y4.length := by omega
  have u6 : ¬ Y4.length + 1 + 1 ≤ g.length := by omega
  have u7 : ¬ Y4.length + 1 + 1 ≤ g.length + 1 := by omega
  have u8 : ¬ Y4.length + 2 ≤ g.length := by omega
  have u9 : ¬ Y4.length + 2 ≤ g.length + 1 := by omega
  have u10 : ¬ Y4.length + 2 ≤ g.length + 2 := by omega
  have eF' : W CP 30 [.agg (P.l x)] (g ++ [ABlk.new (.vals (P.l x)), ABlk.new (.vals (Q.l z)), ABlk.new (.vals [.int .u32 id, .int .u64 A, .int .u64 B])]) = some (.agg (P.l v), H1, []) := by rw [← hB0] at eF; exact eF
  have hEP : putE P F = putE P F := rfl
  obtain ⟨EP, hEP⟩ : ∃ e, putE P F = e := ⟨_, rfl⟩
  rw [hEP] at eB eC
  simp only [Pk.l] at eF' eG hd1 hc2 hd2 hH2 hY hcX hdX eB hc3 eC hc4 hd4 eS1 eS2 eRS eM1 eM2 eQ1 eQ2 eF2 hT0 hc7 eQ3 eR1 eR2 eR3 eR4 eE
  simp (maxDischargeDepth := 9) -implicitDefEqProofs only [push_cast, simprocAttr, M12, nadd1, nadd2, nadd3, nadd4, nadd5, nadd6, nadd7, nadd8, nadd9, nadd10, nadd11, nadd12, Pk.l, hxc, hzc, hnx, hnz, eF', hd1, d1, eG, hnv, hnw, hvc, hwc, hc2, hd2, c2, d2, q1, q2, q3, q4, hY, hcX, hdX, hkX, mcX, mdX, mkX, eB, nb, hc3, mc3, eC, nc, hc4, hd4, hk4, mc4, md4, mk4, eS1, hyc, hny, eS2, aw, eE, eRS, eM1, eM2, eQ1, eQ2, eF2, hnv2, hv2c, eQ3, hT0, hc7, hk7, mT0, mc7, mk7, eR1, eR2, eR3, eR4, lo4, lo4b, u1, u2, u3, u4, u5, u6, u7, u8, u9, u10, decide_false, decide_true, Bool.not_false, Bool.and_true, beq_self_eq_true]
theorem pputs_law (js : AHeap) (avs : List AV) (hx : Ext js) (ht : TyA (CP.gl ++ js) [.agg [.i .u8, .i .u8, .i .u8, .i .u8, .i .i8, .i .i8, .i .u32, .i .u32, .i .u32, .i .u64, .i .u64, .i .u64, .i .u64, .sl [.i .u16, .sl [.i .u8]], .b, .i .u32, .i .u64], .agg [.i .u8, .i .u8, .i .u8, .i .u8, .i .i8, .i .i8, .i .u32, .i .u32, .i .u32, .i .u64, .i .u64, .i .u64, .i .u64, .sl [.i .u16, .sl [.i .u8]], .b, .i .u32, .i .u64], .agg [.i .u32, .i .u64, .i .u64]] avs) : ∃ h' ws, W CP 12 avs (CP.gl ++ js) = some (.bool true, h', ws) := by
  simp only [TyA] at ht
  obtain ⟨cs, _, rfl, k0, ds, _, rfl, k1, ks, _, rfl, k2, rfl⟩ := ht
  obtain ⟨P, x, rfl, okP, hxt⟩ := pk_arg k0
  obtain ⟨Q, z, rfl, okQ, hzt⟩ := pk_arg k1
  obtain ⟨id, A, B, rfl, i0, i1⟩ := key_arg k2
  refine W_law (m := M12) (fun _ => rfl) rfl (pputs_body (pgood_ext hx) (at0_ext hx) okP okQ hxt hzt i0 i1) fun h0 => ?_
  simp only [AV.lts, AV.lt, Bool.and_eq_true] at h0
  exact pputs_body pgood_gl at0_gl okP okQ (ty_nil hxt h0.1.2.2.2.2.2.2.2.2.2.2.2.2.2.1) (ty_nil hzt h0.2.1.2.2.2.2.2.2.2.2.2.2.2.2.2.1) i0 i1
theorem pputs_kinds : aksOf X.P 20 [29, 29, 57] = some [.agg [.i .u8, .i .u8, .i .u8, .i .u8, .i .i8, .i .i8, .i .u32, .i .u32, .i .u32, .i .u64, .i .u64, .i .u64, .i .u64, .sl [.i .u16, .sl [.i .u8]], .b, .i .u32, .i .u64], .agg [.i .u8, .i .u8, .i .u8, .i .u8, .i .i8, .i .i8, .i .u32, .i .u32, .i .u32, .i .u64, .i .u64, .i .u64, .i .u64, .sl [.i .u16, .sl [.i .u8]], .b, .i .u32, .i .u64], .agg [.i .u32, .i .u64, .i .u64]] := by kernel_rfl
end Go.Proofs.YtdbdmnhnijpdcaaDoorW.AI.C
