import Derived.Test.YtdpbbagllhfjbaaDoorAIFpktA
import Derived.Test.YtdpbbagllhfjbaaDoorAIFmacB
namespace Go.Proofs.YtdpbbagllhfjbaaDoorW.AI.F
open Go Go.Proofs.YtdpbbagllhfjbaaDoorW.AI Go.Proofs.YtdpbbagllhfjbaaDoorW.AI.Oct
set_option maxRecDepth 100000
set_option linter.unusedSimpArgs false
set_option linter.unusedVariables false
set_option linter.unusedSectionVars false
section
variable {P : Pk} {x : AV} {F : List (Int × List Int)} {h : AHeap} {id A B : Int}
set_option maxHeartbeats 8000000 in
theorem refsign_bad (ok : P.Ok) (i0 : 0 ≤ id) (i1 : id ≤ 4294967295) (hm : mayP (sgP P id 0) F = false) (hF : F.length < 1000000) (hD : ∀ z ∈ F, z.2.length < 1000000000) (hxc : x.isCell = true) (hg : Good h) (hx : ExtAt h x F) : W CP 35 [.agg (P.l x), .agg [.int .u32 id, .int .u64 A, .int .u64 B]] h = some (.tup [.agg (pk0.l .nils), .int .i64 1], h, []) := by
  refine W_bothH (m := M35) (fun g => ExtAt g x F) (fun _ => rfl) rfl rfl rfl glG (fun h0 => ?_) (fun g hg hx => ?_) hg hx
  · refine pk_gl (P := P) hx ?_
    simp only [AV.lts, AV.lt, Bool.and_eq_true] at h0 ⊢
    exact ⟨h0.1, trivial⟩
  have hn := na_slen hx.len
  have eU := refpput_bad (P := sgP P id 0) (h := g ++ [⟨.tip false, .vals ((sgP P id 0).l x)⟩, ⟨.tip false, .vals [.int .u32 id, .int .u64 A, .int .u64 B]⟩, ⟨.tip false, .vals (pk0.l .nils)⟩]) hm hF hD hxc (good_app hg rfl) (hx.app _)
  simp only [pk0, sgP, Pk.l] at eU
  have q1 : ¬ g.length + 1 = g.length := by omega
  simp (maxDischargeDepth := 9) -implicitDefEqProofs only [push_cast, simprocAttr, M35, nadd1, nadd2, nadd3, nadd4, nadd5, nadd6, nadd7, nadd8, nadd9, nadd10, nadd11, nadd12, Pk.l, pk0, hxc, hn, eU, q1, decide_false, Bool.not_false]
  exact quiet_i
theorem refsign_long (ok : P.Ok) (i0 : 0 ≤ id) (i1 : id ≤ 4294967295) (hm : mayP (sgP P id 0) F = true) (hl : ¬ (putP (sgP P id 0) F).length ≤ 512) (hxc : x.isCell = true) (hg : Good h) (hx : ExtAt h x F) : W CP 35 [.agg (P.l x), .agg [.int .u32 id, .int .u64 A, .int .u64 B]] h = some (.tup [.agg (pk0.l .nils), .int .i64 3], h, []) := by
  refine W_bothH (m := M35) (fun g => ExtAt g x F) (fun _ => rfl) rfl rfl rfl glG (fun h0 => ?_) (fun g hg hx => ?_) hg hx
  · refine pk_gl (P := P) hx ?_
    simp only [AV.lts, AV.lt, Bool.and_eq_true] at h0 ⊢
    exact ⟨h0.1, trivial⟩
  have hn := na_slen hx.len
  have eU := refpput_long (P := sgP P id 0) (h := g ++ [⟨.tip false, .vals ((sgP P id 0).l x)⟩, ⟨.tip false, .vals [.int .u32 id, .int .u64 A, .int .u64 B]⟩, ⟨.tip false, .vals (pk0.l .nils)⟩]) (sgP_ok ok i0 i1 (by decide) (by decide)) hm hl hxc (good_app hg rfl) (hx.app _)
  simp only [pk0, sgP, Pk.l] at eU
  have q1 : ¬ g.length + 1 = g.length := by omega
  simp (maxDischargeDepth := 9) -implicitDefEqProofs only [push_cast, simprocAttr, M35, nadd1, nadd2, nadd3, nadd4, nadd5, nadd6, nadd7, nadd8, nadd9, nadd10, nadd11, nadd12, Pk.l, pk0, hxc, hn, eU, q1, decide_false, Bool.not_false]
  exact quiet_i
set_option maxHeartbeats 8000000 in
theorem refsign_ok (ok : P.Ok) (i0 : 0 ≤ id) (i1 : id ≤ 4294967295) (hm : mayP (sgP P id 0) F = true) (hl : (putP (sgP P id 0) F).length ≤ 512) (hxc : x.isCell = true) (hg : Good h) (hx : ExtAt h x F) (hxl : x.lt h.length = true) : W CP 35 [.agg (P.l x), .agg [.int .u32 id, .int .u64 A, .int .u64 B]] h = some (.tup [.agg ((sgP P id (tagI A B (bodyP P F))).l x), .int .i64 0], h, []) := by
  refine W_bothV (m := M35) (fun g => ExtAt g x F) (fun _ => rfl) rfl rfl glG (fun h0 => ?_) (fun g hg hx => ?_) hg hx (by simp [AV.lt, AV.lts, hxl])
  · have h1 : AV.lts 0 [.agg (P.l x)] = true := by
      simp only [AV.lts, AV.lt, Bool.and_eq_true] at h0 ⊢
      exact ⟨h0.1, trivial⟩
    refine ⟨pk_gl (P := P) hx h1, ?_⟩
    simp only [AV.lts, AV.lt, Bool.and_eq_true] at h1
    simp [AV.lt, AV.lts, h1.1.2.2.2.2.2.2.2.2.2.2.2.2.2.1]
  have hn := na_slen hx.len
  have okS := sgP_ok ok i0 i1 (t := 0) (by decide) (by decide)
  obtain ⟨mH, mX, _, _⟩ := mayP_parts hm
  have hbt := ext_byt hx
  have hG0 : Good (g ++ [⟨.tip false, .vals ((sgP P id 0).l x)⟩, ⟨.tip false, .vals [.int .u32 id, .int .u64 A, .int .u64 B]⟩, ⟨.tip false, .vals (pk0.l .nils)⟩]) := good_app hg rfl
  obtain ⟨y, js, eU, ty, hG1⟩ := refpput_ok okS hm hl hxc hG0 (hx.app _)
  have hx1 := (hx.app [⟨.tip false, .vals ((sgP P id 0).l x)⟩, ⟨.tip false, .vals [.int .u32 id, .int .u64 A, .int .u64 B]⟩, ⟨.tip false, .vals (pk0.l .nils)⟩]).app js
  obtain ⟨z, js2, eB, tz, hG2⟩ := refbody_c okS mH mX hxc hG1 hx1
  have ny := ty.na
  have nz := tz.na
  have bz := tz.bv (bodyP_byt hbt.1)
  have hbl := bodyP_len (P := sgP P id 0) mX
  obtain ⟨H1, hH1⟩ : ∃ H1, (g ++ [(⟨.tip false, .vals ((sgP P id 0).l x)⟩ : ABlk), ⟨.tip false, .vals [.int .u32 id, .int .u64 A, .int .u64 B]⟩, ⟨.tip false, .vals (pk0.l .nils)⟩]) ++ js = H1 := ⟨_, rfl⟩
  have k1 : Keeps g H1 none := ⟨fun q w e _ _ => by rw [← hH1, List.append_assoc, List.getElem?_append_left (List.getElem?_eq_some_iff.1 e).1]; exact e, by rw [← hH1]; simp, fun _ => by rw [← hH1]; exact hG1⟩
  have b0 : H1[g.length]? = some ⟨.tip false, .vals ((sgP P id 0).l x)⟩ := by rw [← hH1, List.append_assoc]; exact end_get _ _ _
  have b1 : H1[g.length + 1]? = some ⟨.tip false, .vals [.int .u32 id, .int .u64 A, .int .u64 B]⟩ := by rw [← hH1, List.append_assoc, List.getElem?_append_right (by omega)]; simp
  have b2 : H1[g.length + 2]? = some ⟨.tip false, .vals (pk0.l .nils)⟩ := by rw [← hH1, List.append_assoc, List.getElem?_append_right (by omega)]; simp
  rw [hH1] at eU eB bz hG2
  obtain ⟨H2, hH2⟩ : ∃ H2, H1 ++ js2 = H2 := ⟨_, rfl⟩
  rw [hH2] at eB bz hG2
  have low : ∀ (q : Nat) (w : ABlk), H1[q]? = some w → H2[q]? = some w := fun q w e => by rw [← hH2, List.getElem?_append_left (List.getElem?_eq_some_iff.1 e).1]; exact e
  have l12 : H1.length ≤ H2.length := by rw [← hH2]; simp
  have k2 : Keeps g H2 none := ⟨fun q w e _ _ => low q w (keepsAll k1 q w e), by have := k1.2.1; omega, fun _ => hG2⟩
  have l0 := (List.getElem?_eq_some_iff.1 b0).1
  have l1 := (List.getElem?_eq_some_iff.1 b1).1
  have l2 := (List.getElem?_eq_some_iff.1 b2).1
  have c0 := low _ _ b0
  have c1 := low _ _ b1
  have c2 := low _ _ b2
  have m0 := (List.getElem?_eq_some_iff.1 c0).1
  have m1 := (List.getElem?_eq_some_iff.1 c1).1
  have m2 := (List.getElem?_eq_some_iff.1 c2).1
  have eT := rtag_c (id := id) (A := A) (B := B) hG2 bz (by omega)
  have eT' : W CP 61 [.agg [.int .u32 id, .int .u64 A, .int .u64 B], z] H2 = some (.int .u64 (tagI A B (bodyP P F)), H2, []) := eT
  have q1 : ¬ g.length + 1 = g.length := by omega
  have q2 : ¬ g.length + 2 = g.length := by omega
  have q3 : ¬ g.length = g.length + 2 := by omega
  have kfin : ∀ w1 w2 : ABlk, notOld w1 = true → notOld w2 = true → ∃ js, ((H2.set g.length w1).set (g.length + 2) w2) = g ++ js := fun w1 w2 e1 e2 =>
    (keeps_set (keeps_set k2 (Nat.le_refl _) e1) (by omega) e2).behind
  have hle0 : ¬ H1.length ≤ g.length := by omega
  have hle1 : ¬ H1.length ≤ g.length + 1 := by omega
  have hle2 : ¬ H2.length ≤ g.length + 1 := by omega
  have hle3 : ¬ H2.length ≤ g.length := by omega
  simp only [pk0, sgP, Pk.l] at eU eB b0 b1 b2 c0 c1 c2
  simp (maxDischargeDepth := 9) -implicitDefEqProofs only [push_cast, simprocAttr, M35, nadd1, nadd2, nadd3, nadd4, nadd5, nadd6, nadd7, nadd8, nadd9, nadd10, nadd11, nadd12, Pk.l, pk0, sgP, hxc, hn, eU, ny, nz, eB, eT', c0, c1, c2, b0, b1, b2, l0, l1, l2, m0, m1, m2, q1, q2, q3, hle0, hle1, hle2, hle3, decide_false, Bool.not_false, Bool.and_true]
  exact ⟨rfl, kfin _ _ rfl rfl, rfl⟩
/-- What Put answers. -/
def putE (P : Pk) (F : List (Int × List Int)) : Int := if mayP P F = true then (if (putP P F).length ≤ 512 then 0 else 3) else 1
def putD (P : Pk) (F : List (Int × List Int)) : List Int := if mayP P F = true ∧ (putP P F).length ≤ 512 then putP P F else []
theorem put_u (ok : P.Ok) (hF : F.length < 1000000) (hD : ∀ z ∈ F, z.2.length < 1000000000) (hxc : x.isCell = true) (hg : Good h) (ha : At0 h) (hx : ExtAt h x F) :
    ∃ v js, W CP 24 [.agg (P.l x)] h = some (.tup [v, .int .i64 (putE P F)], h ++ js, []) ∧ BV (h ++ js) v (putD P F) ∧ Good (h ++ js) := by
  unfold putE putD
  cases hm : mayP P F with
  | false =>
    refine ⟨.nils, [], ?_, by simpa using BV.nil h, by simpa using hg⟩
    rw [List.append_nil]
    exact pput_bad hm hF hD hxc hg hx
  | true =>
    by_cases hl : (putP P F).length ≤ 512
    · obtain ⟨v, js, e, t, _, hG⟩ := pput_ok ok hm hl hxc hg ha hx
      refine ⟨v, js, ?_, ?_, hG⟩
      · rw [if_pos rfl, if_pos hl]; exact e
      · rw [if_pos ⟨rfl, hl⟩]; exact t.bv (putP_byt (ext_byt hx).1)
    · refine ⟨.nils, [], ?_, ?_, by simpa using hg⟩
      · rw [List.append_nil, if_pos rfl, if_neg hl]
        exact pput_long ok hm hl hxc hg ha hx
      · rw [if_neg (fun h => hl h.2)]; simpa using BV.nil h
theorem refput_u (ok : P.Ok) (hF : F.length < 1000000) (hD : ∀ z ∈ F, z.2.length < 1000000000) (hxc : x.isCell = true) (hg : Good h) (hx : ExtAt h x F) :
    ∃ v js, W CP 36 [.agg (P.l x)] h = some (.tup [v, .int .i64 (putE P F)], h ++ js, []) ∧ BV (h ++ js) v (putD P F) ∧ Good (h ++ js) := by
  unfold putE putD
  cases hm : mayP P F with
  | false =>
    refine ⟨.nils, [], ?_, by simpa using BV.nil h, by simpa using hg⟩
    rw [List.append_nil]
    exact refpput_bad hm hF hD hxc hg hx
  | true =>
    by_cases hl : (putP P F).length ≤ 512
    · obtain ⟨v, js, e, t, hG⟩ := refpput_ok ok hm hl hxc hg hx
      refine ⟨v, js, ?_, ?_, hG⟩
      · rw [if_pos rfl, if_pos hl]; exact e
      · rw [if_pos ⟨rfl, hl⟩]; exact t.bv (putP_byt (ext_byt hx).1)
    · refine ⟨.nils, [], ?_, ?_, by simpa using hg⟩
      · rw [List.append_nil, if_pos rfl, if_neg hl]
        exact refpput_long ok hm hl hxc hg hx
      · rw [if_neg (fun h => hl h.2)]; simpa using BV.nil h
/-- What Sign answers. -/
def signS (P : Pk) (F : List (Int × List Int)) (id A B : Int) : Pk := if putE (sgP P id 0) F = 0 then sgP P id (tagI A B (bodyP P F)) else pk0
def signX (P : Pk) (F : List (Int × List Int)) (id : Int) (x : AV) : AV := if putE (sgP P id 0) F = 0 then x else .nils
def signF (P : Pk) (F : List (Int × List Int)) (id : Int) : List (Int × List Int) := if putE (sgP P id 0) F = 0 then F else []
theorem putE_0 {Q : Pk} (hm : mayP Q F = true) (hl : (putP Q F).length ≤ 512) : putE Q F = 0 := by unfold putE; rw [if_pos hm, if_pos hl]
theorem putE_3 {Q : Pk} (hm : mayP Q F = true) (hl : ¬ (putP Q F).length ≤ 512) : putE Q F = 3 := by unfold putE; rw [if_pos hm, if_neg hl]
theorem putE_1 {Q : Pk} (hm : mayP Q F = false) : putE Q F = 1 := by unfold putE; rw [hm]; rfl
theorem sign_u (ok : P.Ok) (i0 : 0 ≤ id) (i1 : id ≤ 4294967295) (hF : F.length < 1000000) (hD : ∀ z ∈ F, z.2.length < 1000000000) (hxc : x.isCell = true) (hg : Good h) (ha : At0 h) (hx : ExtAt h x F) (hxl : x.lt h.length = true) :
    W CP 21 [.agg (P.l x), .agg [.int .u32 id, .int .u64 A, .int .u64 B]] h = some (.tup [.agg ((signS P F id A B).l (signX P F id x)), .int .i64 (putE (sgP P id 0) F)], h, []) := by
  unfold signS signX
  cases hm : mayP (sgP P id 0) F with
  | false => rw [putE_1 hm]; exact psign_bad ok i0 i1 hm hF hD hxc hg hx
  | true =>
    by_cases hl : (putP (sgP P id 0) F).length ≤ 512
    · rw [putE_0 hm hl]; exact psign_ok ok i0 i1 hm hl hxc hg ha hx hxl
    · rw [putE_3 hm hl]; exact psign_long ok i0 i1 hm hl hxc hg ha hx
theorem refsign_u (ok : P.Ok) (i0 : 0 ≤ id) (i1 : id ≤ 4294967295) (hF : F.length < 1000000) (hD : ∀ z ∈ F, z.2.length < 1000000000) (hxc : x.isCell = true) (hg : Good h) (hx : ExtAt h x F) (hxl : x.lt h.length = true) :
    W CP 35 [.agg (P.l x), .agg [.int .u32 id, .int .u64 A, .int .u64 B]] h = some (.tup [.agg ((signS P F id A B).l (signX P F id x)), .int .i64 (putE (sgP P id 0) F)], h, []) := by
  unfold signS signX
  cases hm : mayP (sgP P id 0) F with
  | false => rw [putE_1 hm]; exact refsign_bad ok i0 i1 hm hF hD hxc hg hx
  | true =>
    by_cases hl : (putP (sgP P id 0) F).length ≤ 512
    · rw [putE_0 hm hl]; exact refsign_ok ok i0 i1 hm hl hxc hg hx hxl
    · rw [putE_3 hm hl]; exact refsign_long ok i0 i1 hm hl hxc hg hx
theorem u64_le (p : Int) : 0 ≤ IntKind.u64.wrap p ∧ IntKind.u64.wrap p ≤ 18446744073709551615 := by
  have := u64_in p
  omega
theorem tag_le (A B : Int) (D : List Int) : 0 ≤ tagI A B D ∧ tagI A B D ≤ 18446744073709551615 := by
  unfold tagI
  exact u64_le _
theorem pk0_fine : pk0.Ok := by constructor <;> decide
theorem signS_ok (ok : P.Ok) (i0 : 0 ≤ id) (i1 : id ≤ 4294967295) : (signS P F id A B).Ok := by
  unfold signS
  split
  · exact sgP_ok ok i0 i1 (tag_le _ _ _).1 (tag_le _ _ _).2
  · exact pk0_fine
theorem signX_cell (hxc : x.isCell = true) : (signX P F id x).isCell = true := by unfold signX; split <;> first | exact hxc | rfl
theorem signX_at (hx : ExtAt h x F) : ExtAt h (signX P F id x) (signF P F id) := by
  unfold signX signF
  split
  · exact hx
  · exact ExtAt.nil h
/-- Is it right, by signing it anew? -/
theorem right_sign : rightP P F id A B = (decide (putE (sgP P id 0) F = 0) && (P.s && (decide (P.p15 = id) && decide (P.p16 = (signS P F id A B).p16)))) := by
  unfold rightP
  cases hs : P.s with
  | false => simp
  | true =>
    by_cases h15 : P.p15 = id
    · have e : mayP (sgP P id 0) F = mayP P F := by
        unfold mayP mayS mayT sgP
        rw [hs, h15]; rfl
      have e2 : (putP (sgP P id 0) F).length = (putP P F).length := by
        unfold putP
        rw [hs]
        simp only [sgP, if_true, List.length_append, signB_len]
        rfl
      cases hm : mayP P F with
      | false =>
        rw [putE_1 (by rw [e]; exact hm)]
        simp
      | true =>
        by_cases hl : (putP P F).length ≤ 512
        · have e3 := putE_0 (Q := sgP P id 0) (by rw [e]; exact hm) (by rw [e2]; exact hl)
          have e4 : (signS P F id A B).p16 = tagI A B (bodyP P F) := by unfold signS; rw [if_pos e3]; rfl
          rw [e3, e4, h15]
          simp [hl, eq_comm]
        · rw [putE_3 (Q := sgP P id 0) (by rw [e]; exact hm) (by rw [e2]; exact hl)]
          simp [hl]
    · simp [h15]
set_option maxHeartbeats 8000000 in
theorem refright_c (ok : P.Ok) (i0 : 0 ≤ id) (i1 : id ≤ 4294967295) (hF : F.length < 1000000) (hD : ∀ z ∈ F, z.2.length < 1000000000) (hxc : x.isCell = true) (hg : Good h) (hx : ExtAt h x F) (hxl : x.lt h.length = true) : W CP 31 [.agg (P.l x), .agg [.int .u32 id, .int .u64 A, .int .u64 B]] h = some (.bool (rightP P F id A B), h, []) := by
  refine W_bothH (m := M31) (fun g => ExtAt g x F ∧ x.lt g.length = true) (fun _ => rfl) rfl rfl rfl glG (fun h0 => ?_) (fun g hg hi => ?_) hg ⟨hx, hxl⟩
  · have h1 : AV.lts 0 [.agg (P.l x)] = true := by
      simp only [AV.lts, AV.lt, Bool.and_eq_true] at h0 ⊢
      exact ⟨h0.1, trivial⟩
    refine ⟨pk_gl (P := P) hx h1, ?_⟩
    simp only [AV.lts, AV.lt, Bool.and_eq_true] at h1
    exact AV.lt_mono (Nat.zero_le _) _ h1.1.2.2.2.2.2.2.2.2.2.2.2.2.2.1
  obtain ⟨hx, hxl⟩ := hi
  have hn := na_slen hx.len
  have eS := refsign_u (P := P) (A := A) (B := B) (h := g ++ [⟨.tip false, .vals (P.l x)⟩, ⟨.tip false, .vals [.int .u32 id, .int .u64 A, .int .u64 B]⟩]) ok i0 i1 hF hD hxc (good_app hg rfl) (hx.app _) (AV.lt_mono (by simp) _ hxl)
  rw [right_sign]
  obtain ⟨e, he⟩ : ∃ e, putE (sgP P id 0) F = e := ⟨_, rfl⟩
  obtain ⟨S, hS⟩ : ∃ S, signS P F id A B = S := ⟨_, rfl⟩
  obtain ⟨y, hy⟩ : ∃ y, signX P F id x = y := ⟨_, rfl⟩
  have hyc := signX_cell (P := P) (F := F) (id := id) hxc
  have hny := na_slen (signX_at (P := P) (id := id) hx).len
  rw [he, hS, hy] at eS
  rw [hy] at hyc hny
  rw [he, hS]
  simp only [Pk.l] at eS
  have q1 : ¬ g.length + 1 = g.length := by omega
  cases hs : P.s <;> rcases Classical.propComplete (e = 0) with c1 | c1 <;> rcases Classical.propComplete (P.p15 = id) with c2 | c2 <;> rcases Classical.propComplete (P.p16 = S.p16) with c3 | c3
  all_goals
    simp only [hs] at eS
    simp (maxDischargeDepth := 9) -implicitDefEqProofs only [push_cast, simprocAttr, M31, nadd1, nadd2, nadd3, nadd4, nadd5, nadd6, nadd7, nadd8, nadd9, nadd10, nadd11, nadd12, Pk.l, hs, hxc, hn, hyc, hny, eS, q1, c1, c2, c3, decide_true, decide_false, Bool.true_and, Bool.and_true, Bool.false_and, Bool.and_false]
    exact quiet_i
end
end Go.Proofs.YtdpbbagllhfjbaaDoorW.AI.F
