import Derived.Test.YtdpbbagllhfjbaaDoorAIFpkt5
import Derived.Test.YtdpbbagllhfjbaaDoorAIFnum
namespace Go.Proofs.YtdpbbagllhfjbaaDoorW.AI.F
open Go Go.Proofs.YtdpbbagllhfjbaaDoorW.AI Go.Proofs.YtdpbbagllhfjbaaDoorW.AI.Oct
set_option maxRecDepth 100000
set_option linter.unusedSimpArgs false
set_option linter.unusedVariables false
set_option linter.unusedSectionVars false
section
variable {P : Pk} {x : AV} {F : List (Int × List Int)} {h : AHeap}
set_option maxHeartbeats 8000000 in
theorem refpput_key (ok : P.Ok) (hm : mayP P F = true) (hxc : x.isCell = true) {g : AHeap} (hg : Good g) (hx : ExtAt g x F) : Wp (xbody (W CP) M36 [.agg (P.l x)] g) (PkPost false g (putP P F)) := by
  obtain ⟨mH, mX, mS, mT⟩ := mayP_parts hm
  obtain ⟨h8, hz⟩ := mayX_all mX
  have hn := na_slen hx.len
  obtain ⟨H0, hH0⟩ : ∃ H0, g ++ [ABlk.new (.vals (P.l x))] = H0 := ⟨_, rfl⟩
  have hG0 : Good H0 := by rw [← hH0]; exact good_app hg rfl
  have hx0 : ExtAt H0 x F := by rw [← hH0]; exact hx.app _
  have hq0 : H0[g.length]? = some ⟨.tip false, .vals (P.l x)⟩ := by rw [← hH0]; exact end_get _ _ _
  have hl0 : H0.length = g.length + 1 := by rw [← hH0]; simp
  have k0 : Keeps g H0 none := by rw [← hH0]; exact Keeps.app g _ none rfl
  have eM := refpmay_c (P := P) hx0 hxc hG0 (by omega) (fun z hz' => by have := hz z hz'; omega)
  rw [hm] at eM
  obtain ⟨v, js, eB, tB, hG1⟩ := refbody_c ok mH mX hxc hG0 hx0
  obtain ⟨H1, hH1⟩ : ∃ H1, H0 ++ js = H1 := ⟨_, rfl⟩
  have hq1 : H1[g.length]? = some ⟨.tip false, .vals (P.l x)⟩ := by rw [← hH1, List.getElem?_append_left (by omega)]; exact hq0
  rw [hH1] at eB tB hG1
  have hl1 : g.length < H1.length := (List.getElem?_eq_some_iff.1 hq1).1
  have k1 : Keeps g H1 none := by
    have : Keeps H0 H1 none := ⟨fun q z e _ _ => by rw [← hH1, List.getElem?_append_left (List.getElem?_eq_some_iff.1 e).1]; exact e, by rw [← hH1]; simp, fun _ => hG1⟩
    exact keeps_own hg k0 this (by simp)
  have nv := tB.na
  have lv := tB.slen
  have tB1 := tB.mono (m := g.length) (by omega)
  have hbl := bodyP_len (P := P) (F := F) mX
  cases hs : P.s with
  | false =>
    have hput : putP P F = bodyP P F := by unfold putP; rw [hs]; simp
    rw [hput]
    obtain ⟨n, hnl⟩ : ∃ n, (bodyP P F).length = n := ⟨_, rfl⟩
    rw [hnl] at lv
    simp only [Pk.l, hs] at eM eB hq0 hq1 hH0
    by_cases c : n ≤ 512
    · have c' : ¬ (512 : Int) < (n : Int) := by omega
      simp (maxDischargeDepth := 9) -implicitDefEqProofs only [push_cast, simprocAttr, M36, nadd1, nadd2, nadd3, nadd4, nadd5, nadd6, nadd7, nadd8, nadd9, nadd10, nadd11, nadd12, Pk.l, hs, hH0, hxc, hn, eM, hq0, hl0, eB, hq1, hl1, nv, lv, c']
      exact ⟨k1, rfl, Or.inl ⟨by omega, v, rfl, tB1, by simp⟩⟩
    · have c' : (512 : Int) < (n : Int) := by omega
      simp (maxDischargeDepth := 9) -implicitDefEqProofs only [push_cast, simprocAttr, M36, nadd1, nadd2, nadd3, nadd4, nadd5, nadd6, nadd7, nadd8, nadd9, nadd10, nadd11, nadd12, Pk.l, hs, hH0, hxc, hn, eM, hq0, hl0, eB, hq1, hl1, nv, lv, c']
      exact ⟨k1, rfl, Or.inr ⟨by omega, rfl⟩⟩
  | true =>
    have hput : putP P F = bodyP P F ++ signB P := by unfold putP; rw [hs]; simp
    rw [hput]
    simp only [Pk.l, hs] at eM eB hq0 hq1 hH0
    have w15 : IntKind.u64.wrap P.p15 = P.p15 := wr_u64 _ ok.a15 (by have := ok.b15; omega)
    have eD1 := digits_c (v := P.p15) (k := 4) ok.a15 (by have := ok.b15; omega) (by omega) (by omega) H1
    have eD2 := digits_c (v := P.p16) (k := 8) ok.a16 (by have := ok.b16; omega) (by omega) (by omega) (H1 ++ [⟨.tip false, .ints .u8 (dg 4 P.p15)⟩])
    obtain ⟨d1, hd1⟩ : ∃ d, decide (P.p15 < 256 ^ 4) = d := ⟨_, rfl⟩
    obtain ⟨d2, hd2⟩ : ∃ d, decide (P.p16 < 256 ^ 8) = d := ⟨_, rfl⟩
    obtain ⟨H2, hH2⟩ : ∃ H2, H1 ++ [(⟨.tip false, .ints .u8 (dg 4 P.p15)⟩ : ABlk), ⟨.tip false, .ints .u8 (dg 8 P.p16)⟩] = H2 := ⟨_, rfl⟩
    rw [hd1] at eD1
    rw [hd2] at eD2
    simp only [List.length_append, List.length_cons, List.length_nil, Nat.zero_add, List.append_assoc, List.cons_append, List.nil_append, hH2, Int.cast_ofNat_Int] at eD1 eD2
    have hG2 : Good H2 := by rw [← hH2]; exact good_app hG1 rfl
    have k2 : Keeps g H2 none := by rw [← hH2]; exact keeps_js k1 _ rfl
    have hL2 : H2.length = H1.length + 2 := by rw [← hH2]; simp
    have hq4 : H2[H1.length]? = some ⟨.tip false, .ints .u8 (dg 4 P.p15)⟩ := by rw [← hH2]; exact end_get _ _ _
    have hq5 : H2[H1.length + 1]? = some ⟨.tip false, .ints .u8 (dg 8 P.p16)⟩ := by rw [← hH2, List.getElem?_append_right (by omega)]; simp
    have l4 : (dg 4 P.p15).length = 4 := dg_len _ _
    have l8 : (dg 8 P.p16).length = 8 := dg_len _ _
    have hn4 : newCells H2 (.ints .u8 [0]) (.sl H1.length 0 4 4) = some (.ints .u8 (dg 4 P.p15)) := by
      have := sl_cells (c := 4) hq4
      rw [l4] at this
      exact this
    have t2 : TailAt H2 v (bodyP P F) g.length := by rw [← hH2]; exact tB1.app _
    obtain ⟨n, hnl⟩ : ∃ n, (bodyP P F).length = n := ⟨_, rfl⟩
    rw [hnl] at hbl
    obtain ⟨v3, H3, ws3, ea3, t3, w3, k3, _⟩ := app_tail t2 l4 (by omega) (by omega)
    have kk3 : Keeps g H3 none := keeps_own hg k2 k3 (fun q e => by obtain ⟨p, e2, e3, _⟩ := t2.blk; rw [e] at e2; cases e2; exact e3)
    have hl13 : (bodyP P F ++ dg 4 P.p15).length = n + 4 := by rw [List.length_append, hnl, l4]
    have hq53 : H3[H1.length + 1]? = some ⟨.tip false, .ints .u8 (dg 8 P.p16)⟩ := k3.1 _ _ hq5 (by simp) (fun e => by
      obtain ⟨p, e2, _, e4⟩ := tB1.blk
      rw [e] at e2
      cases e2
      omega)
    have hn5 : newCells H3 (.ints .u8 [0]) (.sl (H1.length + 1) 0 8 8) = some (.ints .u8 (dg 8 P.p16)) := by
      have := sl_cells (c := 8) hq53
      rw [l8] at this
      exact this
    obtain ⟨v4, H4, ws4, ea4, t4, w4, k4, _⟩ := app_tail t3 l8 (by omega) kk3.2.1
    have kk : Keeps g H4 none := keeps_own hg kk3 k4 (fun q e => by obtain ⟨p, e2, e3, _⟩ := t3.blk; rw [e] at e2; cases e2; exact e3)
    rw [List.append_assoc] at t4
    have t4' : TailAt H4 v4 (bodyP P F ++ signB P) g.length := t4
    have hwa3 : wadd g.length [] ws3 = [] := wadd_ge w3
    have hwa4 : wadd g.length [] ws4 = [] := wadd_ge w4
    have nv3 := t3.na
    have nv4 := t4.na
    have lv4 := t4.slen
    rw [← List.append_assoc, List.length_append, hl13, l8] at lv4
    obtain ⟨m, hmn⟩ : ∃ m, n + 4 + 8 = m := ⟨_, rfl⟩
    rw [hmn] at lv4
    have hlen : (bodyP P F ++ signB P).length = m := by rw [List.length_append, hnl, signB_len]; omega
    by_cases c : m ≤ 512
    · have c' : ¬ (512 : Int) < (m : Int) := by omega
      simp (maxDischargeDepth := 9) -implicitDefEqProofs only [push_cast, simprocAttr, M36, nadd1, nadd2, nadd3, nadd4, nadd5, nadd6, nadd7, nadd8, nadd9, nadd10, nadd11, nadd12, Pk.l, hs, hH0, hxc, hn, eM, hq0, hl0, eB, hq1, hl1, nv, lv, w15, eD1, eD2, hn4, ea3, hwa3, nv3, hn5, ea4, hwa4, nv4, lv4, c']
      exact ⟨kk, rfl, Or.inl ⟨by omega, v4, rfl, t4', by simp⟩⟩
    · have c' : (512 : Int) < (m : Int) := by omega
      simp (maxDischargeDepth := 9) -implicitDefEqProofs only [push_cast, simprocAttr, M36, nadd1, nadd2, nadd3, nadd4, nadd5, nadd6, nadd7, nadd8, nadd9, nadd10, nadd11, nadd12, Pk.l, hs, hH0, hxc, hn, eM, hq0, hl0, eB, hq1, hl1, nv, lv, w15, eD1, eD2, hn4, ea3, hwa3, nv3, hn5, ea4, hwa4, nv4, lv4, c']
      exact ⟨kk, rfl, Or.inr ⟨by omega, rfl⟩⟩
theorem pput_ok (ok : P.Ok) (hm : mayP P F = true) (hl : (putP P F).length ≤ 512) (hxc : x.isCell = true) (hg : Good h) (ha : At0 h) (hx : ExtAt h x F) :
    ∃ v js, W CP 24 [.agg (P.l x)] h = some (.tup [v, .int .i64 0], h ++ js, []) ∧ TailAt (h ++ js) v (putP P F) h.length ∧ Mn v ∧ Good (h ++ js) := by
  obtain ⟨⟨v, h', ws⟩, e, ⟨k, rfl, q⟩, _⟩ := W_addrH (C := CP) (f := 24) (args := [.agg (P.l x)]) (m := M24) (fun g => Good g ∧ At0 g ∧ ExtAt g x F) (fun g r => PkPost true g (putP P F) r ∧ Good g) (fun _ => rfl) rfl rfl (fun h0 => ⟨glG, at0_gl, pk_gl hx h0⟩) (fun g hi => (pput_key ok hm hxc hi.1 hi.2.1 hi.2.2).mono fun r hr => ⟨by
      obtain ⟨_, _, ⟨_, v, e, t, _⟩ | ⟨h1, _⟩⟩ := hr
      · rw [e]; simp [AV.lt, AV.lts, t.lt]
      · exact absurd hl h1, hr, hi.1⟩) ⟨hg, ha, hx⟩
  obtain ⟨_, v, rfl, t, m⟩ | ⟨h1, _⟩ := q
  · simp only at t k m
    obtain ⟨js, rfl⟩ := k.behind
    exact ⟨v, js, e, t, m trivial, k.2.2 hg⟩
  · exact absurd hl h1
theorem pput_long (ok : P.Ok) (hm : mayP P F = true) (hl : ¬ (putP P F).length ≤ 512) (hxc : x.isCell = true) (hg : Good h) (ha : At0 h) (hx : ExtAt h x F) : W CP 24 [.agg (P.l x)] h = some (.tup [.nils, .int .i64 3], h, []) := by
  refine W_bothH (m := M24) (fun g => At0 g ∧ ExtAt g x F) (fun _ => rfl) rfl rfl rfl glG (fun h0 => ⟨at0_gl, pk_gl hx h0⟩) (fun g hg hi => ?_) hg ⟨ha, hx⟩
  refine (pput_key ok hm hxc hg hi.1 hi.2).mono fun r hr => ?_
  obtain ⟨k, e, ⟨h1, _⟩ | ⟨_, h2⟩⟩ := hr
  · exact absurd h1 hl
  · exact ⟨h2, k.behind, e⟩
theorem pput_bad (hm : mayP P F = false) (hF : F.length < 1000000) (hD : ∀ z ∈ F, z.2.length < 1000000000) (hxc : x.isCell = true) (hg : Good h) (hx : ExtAt h x F) : W CP 24 [.agg (P.l x)] h = some (.tup [.nils, .int .i64 1], h, []) := by
  refine W_bothH (m := M24) (fun g => ExtAt g x F) (fun _ => rfl) rfl rfl rfl glG (fun h0 => pk_gl hx h0) (fun g hg hx => ?_) hg hx
  have hn := na_slen hx.len
  have eM := pmay_c (P := P) (hx.app [ABlk.new (.vals (P.l x))]) hxc (good_app hg rfl) hF hD
  rw [hm] at eM
  simp (maxDischargeDepth := 9) -implicitDefEqProofs only [push_cast, simprocAttr, M24, nadd1, nadd2, nadd3, nadd4, nadd5, nadd6, nadd7, nadd8, nadd9, nadd10, nadd11, nadd12, Pk.l, hxc, hn, eM]
  exact quiet_i
theorem refpput_ok (ok : P.Ok) (hm : mayP P F = true) (hl : (putP P F).length ≤ 512) (hxc : x.isCell = true) (hg : Good h) (hx : ExtAt h x F) :
    ∃ v js, W CP 36 [.agg (P.l x)] h = some (.tup [v, .int .i64 0], h ++ js, []) ∧ TailAt (h ++ js) v (putP P F) h.length ∧ Good (h ++ js) := by
  obtain ⟨⟨v, h', ws⟩, e, ⟨k, rfl, q⟩, _⟩ := W_addrH (C := CP) (f := 36) (args := [.agg (P.l x)]) (m := M36) (fun g => Good g ∧ ExtAt g x F) (fun g r => PkPost false g (putP P F) r ∧ Good g) (fun _ => rfl) rfl rfl (fun h0 => ⟨glG, pk_gl hx h0⟩) (fun g hi => (refpput_key ok hm hxc hi.1 hi.2).mono fun r hr => ⟨by
      obtain ⟨_, _, ⟨_, v, e, t, _⟩ | ⟨h1, _⟩⟩ := hr
      · rw [e]; simp [AV.lt, AV.lts, t.lt]
      · exact absurd hl h1, hr, hi.1⟩) ⟨hg, hx⟩
  obtain ⟨_, v, rfl, t, m⟩ | ⟨h1, _⟩ := q
  · simp only at t k m
    obtain ⟨js, rfl⟩ := k.behind
    exact ⟨v, js, e, t, k.2.2 hg⟩
  · exact absurd hl h1
theorem refpput_long (ok : P.Ok) (hm : mayP P F = true) (hl : ¬ (putP P F).length ≤ 512) (hxc : x.isCell = true) (hg : Good h) (hx : ExtAt h x F) : W CP 36 [.agg (P.l x)] h = some (.tup [.nils, .int .i64 3], h, []) := by
  refine W_bothH (m := M36) (fun g => ExtAt g x F) (fun _ => rfl) rfl rfl rfl glG (fun h0 => pk_gl hx h0) (fun g hg hi => ?_) hg hx
  refine (refpput_key ok hm hxc hg hi).mono fun r hr => ?_
  obtain ⟨k, e, ⟨h1, _⟩ | ⟨_, h2⟩⟩ := hr
  · exact absurd h1 hl
  · exact ⟨h2, k.behind, e⟩
theorem refpput_bad (hm : mayP P F = false) (hF : F.length < 1000000) (hD : ∀ z ∈ F, z.2.length < 1000000000) (hxc : x.isCell = true) (hg : Good h) (hx : ExtAt h x F) : W CP 36 [.agg (P.l x)] h = some (.tup [.nils, .int .i64 1], h, []) := by
  refine W_bothH (m := M36) (fun g => ExtAt g x F) (fun _ => rfl) rfl rfl rfl glG (fun h0 => pk_gl hx h0) (fun g hg hx => ?_) hg hx
  have hn := na_slen hx.len
  have eM := refpmay_c (P := P) (hx.app [ABlk.new (.vals (P.l x))]) hxc (good_app hg rfl) hF hD
  rw [hm] at eM
  simp (maxDischargeDepth := 9) -implicitDefEqProofs only [push_cast, simprocAttr, M36, nadd1, nadd2, nadd3, nadd4, nadd5, nadd6, nadd7, nadd8, nadd9, nadd10, nadd11, nadd12, Pk.l, hxc, hn, eM]
  exact quiet_i
end
end Go.Proofs.YtdpbbagllhfjbaaDoorW.AI.F
