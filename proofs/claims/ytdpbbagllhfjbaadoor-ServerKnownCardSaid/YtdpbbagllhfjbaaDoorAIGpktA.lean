import Derived.Test.YtdpbbagllhfjbaaDoorAIGpkt9
namespace Go.Proofs.YtdpbbagllhfjbaaDoorW.AI.G
open Go Go.Proofs.YtdpbbagllhfjbaaDoorW.AI Go.Proofs.YtdpbbagllhfjbaaDoorW.AI.Oct
set_option maxRecDepth 100000
set_option linter.unusedSimpArgs false
set_option linter.unusedVariables false
set_option linter.unusedSectionVars false
/-- Is the packet right for the key? -/
def rightP (P : Pk) (F : List (Int × List Int)) (id A B : Int) : Bool := mayP P F && (decide ((putP P F).length ≤ 512) && (P.s && (decide (P.p15 = id) && decide (tagI A B (bodyP P F) = P.p16))))
section
variable {P : Pk} {x : AV} {F : List (Int × List Int)} {h : AHeap} {id A B : Int}
theorem mright_c {t : Int} {b : AV} {D : List Int} {pq : Nat} (hg : Good h) (hp : h[pq]? = some ⟨.tip false, .vals [b]⟩) (hb : BV h b D) (hl : D.length < 1000000) : W CP 41 [.agg [.int .u32 id, .int .u64 A, .int .u64 B], .int .u64 t, .sl pq 0 1 1] h = some (.bool (decide (tagI A B D = t)), h, []) := by
  refine W_quietP (m := M41) rfl rfl (by simp [AV.lts, AV.lt]) rfl rfl hg ?_
  have lp := (List.getElem?_eq_some_iff.1 hp).1
  have e := tag_c (h := h ++ [⟨.tip false, .vals [.int .u32 id, .int .u64 A, .int .u64 B]⟩]) (id := id) (A := A) (B := B) (good_app hg rfl) (by rw [List.getElem?_append_left lp]; exact hp) (hb.app _) hl
  simp (maxDischargeDepth := 9) -implicitDefEqProofs only [push_cast, simprocAttr, M41, nadd1, nadd2, nadd3, nadd4, nadd5, nadd6, nadd7, nadd8, nadd9, nadd10, nadd11, nadd12, e]
  exact quiet_i
set_option maxHeartbeats 8000000 in
theorem pright_c (ok : P.Ok) (hF : F.length < 1000000) (hD : ∀ z ∈ F, z.2.length < 1000000000) (hxc : x.isCell = true) (hg : Good h) (ha : At0 h) (hx : ExtAt h x F) : W CP 18 [.agg (P.l x), .agg [.int .u32 id, .int .u64 A, .int .u64 B]] h = some (.bool (rightP P F id A B), h, []) := by
  refine W_bothH (m := M18) (fun g => At0 g ∧ ExtAt g x F) (fun _ => rfl) rfl rfl rfl glG (fun h0 => ⟨at0_gl, ?_⟩) (fun g hg hi => ?_) hg ⟨ha, hx⟩
  · refine pk_gl (P := P) hx ?_
    simp only [AV.lts, AV.lt, Bool.and_eq_true] at h0 ⊢
    exact ⟨h0.1, trivial⟩
  obtain ⟨ha, hx⟩ := hi
  have hn := na_slen hx.len
  have q1 : ¬ g.length + 1 = g.length := by omega
  have hG0 : Good (g ++ [⟨.tip false, .vals (P.l x)⟩, ⟨.tip false, .vals [.int .u32 id, .int .u64 A, .int .u64 B]⟩]) := good_app hg rfl
  unfold rightP
  cases hm : mayP P F with
  | false =>
    have eU := pput_bad (P := P) hm hF hD hxc hG0 (hx.app _)
    simp only [Pk.l] at eU
    simp (maxDischargeDepth := 9) -implicitDefEqProofs only [push_cast, simprocAttr, M18, nadd1, nadd2, nadd3, nadd4, nadd5, nadd6, nadd7, nadd8, nadd9, nadd10, nadd11, nadd12, Pk.l, hxc, hn, eU]
    exact quiet_i
  | true =>
    by_cases hl : (putP P F).length ≤ 512
    · rw [decide_eq_true hl]
      obtain ⟨y, js, eU, ty, _, hG1⟩ := pput_ok ok hm hl hxc hG0 (ha.app _) (hx.app _)
      have ny := ty.na
      obtain ⟨mH, mX, _, _⟩ := mayP_parts hm
      have hbt := ext_byt hx
      have hx1 := (hx.app [⟨.tip false, .vals (P.l x)⟩, ⟨.tip false, .vals [.int .u32 id, .int .u64 A, .int .u64 B]⟩]).app js
      have ha1 := (ha.app [⟨.tip false, .vals (P.l x)⟩, ⟨.tip false, .vals [.int .u32 id, .int .u64 A, .int .u64 B]⟩]).app js
      obtain ⟨z, js2, eB, tz, _, hG2⟩ := pbody_c ok mH mX hxc hG1 ha1 hx1
      have nz := tz.na
      have bz := tz.bv (bodyP_byt hbt.1)
      have hbl := bodyP_len (P := P) mX
      obtain ⟨H1, hH1⟩ : ∃ H1, (g ++ [(⟨.tip false, .vals (P.l x)⟩ : ABlk), ⟨.tip false, .vals [.int .u32 id, .int .u64 A, .int .u64 B]⟩]) ++ js = H1 := ⟨_, rfl⟩
      have k1 : Keeps g H1 none := ⟨fun q w e _ _ => by rw [← hH1, List.append_assoc, List.getElem?_append_left (List.getElem?_eq_some_iff.1 e).1]; exact e, by rw [← hH1]; simp, fun _ => by rw [← hH1]; exact hG1⟩
      have b0 : H1[g.length]? = some ⟨.tip false, .vals (P.l x)⟩ := by rw [← hH1, List.append_assoc]; exact end_get _ _ _
      have b1 : H1[g.length + 1]? = some ⟨.tip false, .vals [.int .u32 id, .int .u64 A, .int .u64 B]⟩ := by rw [← hH1, List.append_assoc, List.getElem?_append_right (by omega)]; simp
      rw [hH1] at eU eB bz hG2
      obtain ⟨H2, hH2⟩ : ∃ H2, H1 ++ js2 = H2 := ⟨_, rfl⟩
      rw [hH2] at eB bz hG2
      have low : ∀ (q : Nat) (w : ABlk), H1[q]? = some w → H2[q]? = some w := fun q w e => by rw [← hH2, List.getElem?_append_left (List.getElem?_eq_some_iff.1 e).1]; exact e
      have k2 : Keeps g H2 none := ⟨fun q w e _ _ => low q w (keepsAll k1 q w e), by have := k1.2.1; rw [← hH2]; simp; omega, fun _ => hG2⟩
      have l0 := (List.getElem?_eq_some_iff.1 b0).1
      have l1 := (List.getElem?_eq_some_iff.1 b1).1
      have c0 := low _ _ b0
      have c1 := low _ _ b1
      have m0 := (List.getElem?_eq_some_iff.1 c0).1
      have m1 := (List.getElem?_eq_some_iff.1 c1).1
      have l12 : H1.length ≤ H2.length := by rw [← hH2]; simp
      have eT := mright_c (id := id) (A := A) (B := B) (t := P.p16) (pq := H2.length) (good_app (js := [⟨.tip false, .vals [z]⟩]) hG2 rfl) (end_get _ _ _) (bz.app _) (by omega)
      obtain ⟨rt, hrt⟩ : ∃ rt, decide (tagI A B (bodyP P F) = P.p16) = rt := ⟨_, rfl⟩
      rw [hrt] at eT ⊢
      obtain ⟨nb, hnb⟩ : ∃ nb, (bodyP P F).length = nb := ⟨_, rfl⟩
      have z1 : ∃ p, z = .sl p 0 nb nb ∨ ∃ mn, z = .gsl p 0 nb 1 mn := by
        rw [← hnb]
        obtain ⟨p, _, ⟨e, _⟩ | ⟨o, mn, e, _⟩⟩ := tz
        · exact ⟨p, Or.inl e⟩
        · exact ⟨p, Or.inr ⟨mn, e⟩⟩
      have kf1 : ∃ js, H1 = g ++ js := k1.behind
      have kf2 : ∃ js, H2 ++ [⟨.tip false, .vals [z]⟩] = g ++ js := (keeps_js k2 [⟨.tip false, .vals [z]⟩] rfl).behind
      have hle1 : ¬ H1.length ≤ g.length := by omega
      have hle2 : ¬ H1.length ≤ g.length + 1 := by omega
      obtain ⟨pz, e | ⟨mn, e⟩⟩ := z1 <;> subst e <;> cases hs : P.s <;> rcases Classical.propComplete (P.p15 = id) with c5 | c5
      all_goals
        simp only [Pk.l, hs] at eU eB b0 b1 c0 c1
        simp (maxDischargeDepth := 9) -implicitDefEqProofs only [push_cast, simprocAttr, M18, nadd1, nadd2, nadd3, nadd4, nadd5, nadd6, nadd7, nadd8, nadd9, nadd10, nadd11, nadd12, Pk.l, hs, hxc, hn, eU, ny, nz, eB, eT, c0, c1, b0, b1, l0, l1, m0, m1, q1, c5, hle1, hle2, decide_false, decide_true, Bool.not_false, Bool.not_true, Bool.and_true, Bool.true_and, Bool.and_false, Bool.false_and]
        first | exact ⟨rfl, kf1, rfl⟩ | exact ⟨rfl, kf2, rfl⟩
    · have eU := pput_long ok hm hl hxc hG0 (ha.app _) (hx.app _)
      rw [decide_eq_false hl]
      simp only [Pk.l] at eU
      simp (maxDischargeDepth := 9) -implicitDefEqProofs only [push_cast, simprocAttr, M18, nadd1, nadd2, nadd3, nadd4, nadd5, nadd6, nadd7, nadd8, nadd9, nadd10, nadd11, nadd12, Pk.l, hxc, hn, eU]
      exact quiet_i
end
end Go.Proofs.YtdpbbagllhfjbaaDoorW.AI.G
