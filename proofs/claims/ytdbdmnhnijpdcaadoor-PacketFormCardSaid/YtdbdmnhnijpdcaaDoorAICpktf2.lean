import Derived.Test.YtdbdmnhnijpdcaaDoorAICpktf1
namespace Go.Proofs.YtdbdmnhnijpdcaaDoorW.AI.C
open Go Go.Proofs.YtdbdmnhnijpdcaaDoorW.AI Go.Proofs.YtdbdmnhnijpdcaaDoorW.AI.Oct Go.RowKit
set_option maxRecDepth 100000
set_option linter.unusedSimpArgs false
set_option linter.unusedVariables false
set_option linter.unusedSectionVars false
theorem RowX.set_vals {h : AHeap} {v : AV} {F : List (Int × List Int)} {A C B : List AV} {q : Nat} (r : RowX h v F A) (hq : h[q]? = some ⟨.tip false, .vals C⟩) (hne : ∀ p, blkS v = some p → p ≠ q) : RowX (h.set q ⟨.tip false, .vals B⟩) v F A := by
  refine ⟨r.fl, r.len, ?_, fun i t D hi => ?_⟩
  · rcases r.sh with e | ⟨b, c, st, mn, e, hb, hl⟩
    · exact Or.inl e
    · refine Or.inr ⟨b, c, st, mn, e, ?_, hl⟩
      rw [List.getElem?_set_ne (fun e2 => hne b (by rcases e with ⟨rfl, _⟩ | rfl <;> rfl) e2.symm)]
      exact hb
  · obtain ⟨h1, h2, d, h3, h4, h5⟩ := r.el i t D hi
    exact ⟨h1, h2, d, h3, h4.set_vals hq, h5⟩
section
variable {P : Pk} {x : AV} {F : List (Int × List Int)} {A : List AV}
theorem row_cell {h : AHeap} (r : RowX h x F A) : x.isCell = true := by
  rcases r.sh with ⟨rfl, _⟩ | ⟨_, _, _, _, ⟨rfl, _⟩ | rfl, _⟩ <;> rfl
set_option maxHeartbeats 4000000 in
theorem pfew_key {g : AHeap} (hg : Good g) (hx : RowX g x F A) : Wp (xbody (W CP) M30 [.agg (P.l x)] g) fun r => r.1.lt g.length = false ∧ ∃ v js A', r = (.agg (P.l v), g ++ js, []) ∧ RowX (g ++ js) v (fewX F) A' ∧ Good (g ++ js) ∧ ∃ p, blkS v = some p ∧ g.length ≤ p := by
  have hxc := row_cell hx
  have hn := na_slen hx.xr.len
  have hG0 : Good (g ++ [⟨.tip false, .vals (P.l x)⟩, ⟨.tip false, .vals (pk0.l .nils)⟩]) := good_app hg rfl
  obtain ⟨v, js, A', eF, rF, hj, p, hp, hpl⟩ := few_c hG0 (hx.app [⟨.tip false, .vals (P.l x)⟩, ⟨.tip false, .vals (pk0.l .nils)⟩])
  have hG1 := good_app hG0 hj
  have k1 : Keeps g ((g ++ [⟨.tip false, .vals (P.l x)⟩, ⟨.tip false, .vals (pk0.l .nils)⟩]) ++ js) none := keeps_js (Keeps.app g _ none rfl) js hj
  have hb0 : ((g ++ [⟨.tip false, .vals (P.l x)⟩, ⟨.tip false, .vals (pk0.l .nils)⟩]) ++ js)[g.length]? = some ⟨.tip false, .vals (P.l x)⟩ := by rw [List.append_assoc]; exact end_get _ _ _
  have hb1 : ((g ++ [⟨.tip false, .vals (P.l x)⟩, ⟨.tip false, .vals (pk0.l .nils)⟩]) ++ js)[g.length + 1]? = some ⟨.tip false, .vals (pk0.l .nils)⟩ := by rw [List.append_assoc, List.getElem?_append_right (by omega)]; simp
  have hpl2 : g.length + 2 ≤ p := by simpa using hpl
  obtain ⟨H1, hH1⟩ : ∃ H1, (g ++ [(⟨.tip false, .vals (P.l x)⟩ : ABlk), ⟨.tip false, .vals (pk0.l .nils)⟩]) ++ js = H1 := ⟨_, rfl⟩
  rw [hH1] at eF rF hG1 k1 hb0 hb1
  clear hH1
  have l0 : g.length < H1.length := (List.getElem?_eq_some_iff.1 hb0).1
  have l1 : g.length + 1 < H1.length := (List.getElem?_eq_some_iff.1 hb1).1
  have r1 := rF.set_vals (B := P.l v) hb0 (fun q e => by rw [hp] at e; cases e; omega)
  have hb1' : (H1.set g.length ⟨.tip false, .vals (P.l v)⟩)[g.length + 1]? = some ⟨.tip false, .vals (pk0.l .nils)⟩ := by rw [List.getElem?_set_ne (by omega)]; exact hb1
  have r2 := r1.set_vals (B := P.l v) hb1' (fun q e => by rw [hp] at e; cases e; omega)
  have k2 : Keeps g ((H1.set g.length ⟨.tip false, .vals (P.l v)⟩).set (g.length + 1) ⟨.tip false, .vals (P.l v)⟩) none := keeps_set (keeps_set k1 (Nat.le_refl _) rfl) (by omega) rfl
  have hv := row_cell rF
  have hnv := na_slen rF.xr.len
  have q1 : ¬ g.length + 1 = g.length := by omega
  have q2 : ¬ g.length = g.length + 1 := by omega
  have q3 : ¬ g.length + 1 < g.length := by omega
  have hvs : ∃ b c mn, v = .sl b 0 (fewX F).length c ∨ v = .gsl b 0 (fewX F).length 2 mn := by
    rcases rF.sh with ⟨rfl, _⟩ | ⟨b, c, _, mn, ⟨e, _⟩ | e, _⟩
    · cases hp
    · exact ⟨b, c, false, Or.inl e⟩
    · exact ⟨b, 0, mn, Or.inr e⟩
  have fin : ∃ js A', ((H1.set g.length ⟨.tip false, .vals (P.l v)⟩).set (g.length + 1) ⟨.tip false, .vals (P.l v)⟩) = g ++ js ∧ RowX (g ++ js) v (fewX F) A' ∧ Good (g ++ js) ∧ ∃ p, blkS v = some p ∧ g.length ≤ p := by
    obtain ⟨js', e⟩ := k2.behind
    refine ⟨js', A', e, ?_, ?_, p, hp, by omega⟩
    · rw [← e]; exact r2
    · rw [← e]; exact k2.2.2 hg
  simp only [pk0, Pk.l] at eF hb0 hb1 hb1' fin
  have hlt : (AV.agg (P.l v)).lt g.length = false := by
    have : v.lt g.length = false := by
      cases v <;> simp [blkS] at hp <;> simp [AV.lt] <;> omega
    simp [AV.lt, AV.lts, this]
  obtain ⟨b, c, mn, e | e⟩ := hvs <;> subst e
  all_goals
    simp (maxDischargeDepth := 9) -implicitDefEqProofs only [push_cast, simprocAttr, M30, nadd1, nadd2, nadd3, nadd4, nadd5, nadd6, nadd7, nadd8, nadd9, nadd10, nadd11, nadd12, Pk.l, hxc, hn, eF, hb0, hb1, hb1', l0, l1, hnv, q1, q2, q3]
    obtain ⟨js', A2, e, r, hgood, q⟩ := fin
    rw [e]
    exact ⟨hlt, _, js', A2, rfl, r, hgood, q⟩
theorem RowX.gl' {h g : AHeap} (hx : RowX h x F A) (h0 : AV.lts 0 [.agg (P.l x)] = true) : RowX g x F A := by
  simp only [AV.lts, AV.lt, Bool.and_eq_true] at h0
  exact hx.gl h0.1.2.2.2.2.2.2.2.2.2.2.2.2.2.1
/-- few: a packet of few fields. -/
theorem pfew_c {h : AHeap} (hg : Good h) (hx : RowX h x F A) : ∃ v js A', W CP 30 [.agg (P.l x)] h = some (.agg (P.l v), h ++ js, []) ∧ RowX (h ++ js) v (fewX F) A' ∧ Good (h ++ js) ∧ ∃ p, blkS v = some p ∧ h.length ≤ p := by
  obtain ⟨r, e, v, js, A', rfl, h1, h2, h3⟩ := W_addrH (C := CP) (f := 30) (args := [.agg (P.l x)]) (m := M30) (fun g => Good g ∧ RowX g x F A) (fun g r => ∃ v js A', r = (.agg (P.l v), g ++ js, []) ∧ RowX (g ++ js) v (fewX F) A' ∧ Good (g ++ js) ∧ ∃ p, blkS v = some p ∧ g.length ≤ p) (fun _ => rfl) rfl rfl (fun h0 => ⟨glG, hx.gl' h0⟩) (fun g hi => pfew_key hi.1 hi.2) ⟨hg, hx⟩
  exact ⟨v, js, A', e, h1, h2, h3⟩
end
theorem _root_.Go.Proofs.YtdbdmnhnijpdcaaDoorW.AI.C.RowX.ty_gl {g : AHeap} {x : AV} (h : Ty g (.sl [.i .u16, .sl [.i .u8]]) x) : ∃ F A, RowX g x F A := by
  obtain ⟨F, A, ax⟩ := arg_ext h
  exact ⟨F, A, ax.row⟩
/-- A packet that is handed in. -/
theorem pk_arg {g : AHeap} {cs : List AV} (k : TyL g [.i .u8, .i .u8, .i .u8, .i .u8, .i .i8, .i .i8, .i .u32, .i .u32, .i .u32, .i .u64, .i .u64, .i .u64, .i .u64, .sl [.i .u16, .sl [.i .u8]], .b, .i .u32, .i .u64] cs) : ∃ (P : Pk) (x : AV), cs = P.l x ∧ P.Ok ∧ Ty g (.sl [.i .u16, .sl [.i .u8]]) x := by
  simp only [TyL] at k
  obtain ⟨_, _, rfl, t0, _, _, rfl, t1, _, _, rfl, t2, _, _, rfl, t3, _, _, rfl, t4, _, _, rfl, t5, _, _, rfl, t6, _, _, rfl, t7, _, _, rfl, t8, _, _, rfl, t9, _, _, rfl, t10, _, _, rfl, t11, _, _, rfl, t12, x, _, rfl, t13, _, _, rfl, t14, _, _, rfl, t15, _, _, rfl, t16, rfl⟩ := k
  simp only [Ty] at t0 t1 t2 t3 t4 t5 t6 t7 t8 t9 t10 t11 t12 t14 t15 t16
  obtain ⟨n0, rfl, a0, b0⟩ := t0
  obtain ⟨n1, rfl, a1, b1⟩ := t1
  obtain ⟨n2, rfl, a2, b2⟩ := t2
  obtain ⟨n3, rfl, a3, b3⟩ := t3
  obtain ⟨n4, rfl, a4, b4⟩ := t4
  obtain ⟨n5, rfl, a5, b5⟩ := t5
  obtain ⟨n6, rfl, a6, b6⟩ := t6
  obtain ⟨n7, rfl, a7, b7⟩ := t7
  obtain ⟨n8, rfl, a8, b8⟩ := t8
  obtain ⟨n9, rfl, a9, b9⟩ := t9
  obtain ⟨n10, rfl, a10, b10⟩ := t10
  obtain ⟨n11, rfl, a11, b11⟩ := t11
  obtain ⟨n12, rfl, a12, b12⟩ := t12
  obtain ⟨s, rfl⟩ := t14
  obtain ⟨n15, rfl, a15, b15⟩ := t15
  obtain ⟨n16, rfl, a16, b16⟩ := t16
  exact ⟨⟨n0, n1, n2, n3, n4, n5, n6, n7, n8, n9, n10, n11, n12, s, n15, n16⟩, x, rfl, ⟨a0, b0, a1, b1, a2, b2, a3, b3, a4, b4, a5, b5, a6, b6, a7, b7, a8, b8, a9, b9, a10, b10, a11, b11, a12, b12, a15, b15, a16, b16⟩, t13⟩
end Go.Proofs.YtdbdmnhnijpdcaaDoorW.AI.C
