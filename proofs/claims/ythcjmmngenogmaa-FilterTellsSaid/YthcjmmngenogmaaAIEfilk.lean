import Derived.Test.YthcjmmngenogmaaAIEfilj
namespace Go.Proofs.YthcjmmngenogmaaW.AI.E
open Go Go.Proofs.YthcjmmngenogmaaW.AI
set_option maxRecDepth 100000
set_option linter.unusedSimpArgs false
set_option linter.unusedVariables false
set_option linter.unusedSectionVars false
theorem trim_not {len b : Nat} {v : AV} {H : AHeap} {ws : List Nat} {x : ABlk} (hb : b ∈ ws) (hx : H[b]? = some x) (hc : x.c.lt len = false) : trimR len (v, H, ws) = (v, H, ws) := by
  unfold trimR
  rw [if_neg]
  simp only [Bool.and_eq_true, List.all_eq_true, not_and]
  intro h1
  have := h1.2 b hb
  rw [hx] at this
  simp only [hc] at this
  exact absurd this (by decide)
section
variable {h : AHeap} {p q : Nat} {F : FS} {v : AV} {n : Nat}
theorem RW.ltn {L : List Sp} (u : RW h v L n) (hL : L ≠ []) : v.lt n = false := by
  obtain ⟨rfl, rfl⟩ | ⟨b, o, hb, _, rfl⟩ := u
  · exact absurd rfl hL
  · simp [AV.lt]; omega
theorem RW.ltl {L : List Sp} (u : RW h v L n) : v.lt h.length = true := by
  obtain ⟨rfl, rfl⟩ | ⟨b, o, hb, e, rfl⟩ := u
  · rfl
  · have := (List.getElem?_eq_some_iff.1 e).1
    simpa [AV.lt] using this
theorem RW.setv {L : List Sp} {A : List AV} {st : BSt} (u : RW h v L n) (e : h[p]? = some ⟨st, .vals A⟩) (X : ABlk) : RW (h.set p X) v L n := by
  obtain c | ⟨b, o, hb, eb, c⟩ := u
  · exact Or.inl c
  · refine Or.inr ⟨b, o, hb, ?_, c⟩
    have : p ≠ b := by
      rintro rfl
      rw [e] at eb
      cases eb
    rw [List.getElem?_set_ne this]; exact eb
theorem RulR.setv {t f : Int} {A : List AV} {st : BSt} (r : RulR h q t f) (e : h[p]? = some ⟨st, .vals A⟩) (X : ABlk) : RulR (h.set p X) q t f := by
  obtain ⟨h1, h2, h3⟩ := r
  have : p ≠ q := by
    rintro rfl
    rw [e] at h1
    cases h1
  exact ⟨by rw [List.getElem?_set_ne this]; exact h1, by rw [List.length_set]; exact h2, h3⟩
theorem RefAt.again (a : RefAt h p F q v n) (u : Int) (d : Bool) : RefAt (h.set p ⟨.tip false, .vals [.ptr q 0, v, .int .i64 u, .bool d]⟩) p { F with used := u, held := d } q v n :=
  ⟨List.getElem?_set_self (List.getElem?_eq_some_iff.1 a.blk).1, a.row.setv a.blk _, a.le, a.rul.setv a.blk _⟩
/-- Another block of values is changed. -/
theorem RefAt.other (a : RefAt h p F q v n) {z : Nat} {A : List AV} {st : BSt} (e : h[z]? = some ⟨st, .vals A⟩) (hz : z ≠ p) (X : ABlk) : RefAt (h.set z X) p F q v n :=
  ⟨by rw [List.getElem?_set_ne hz]; exact a.blk, a.row.setv e _, a.le, a.rul.setv e _⟩
theorem ref_lt (a : RefAt h p F q v n) (u : Int) (d : Bool) : (ACells.vals [.ptr q 0, v, .int .i64 u, .bool d]).lt h.length = true := by
  have h1 := a.row.ltl
  have h2 := a.rul.2.1
  have h3 := a.row.cell
  simp [ACells.lt, AV.lts, AV.lt, AV.isCell, h1, h2, h3]
  exact h3
theorem refPut_bad {s : Sp} (hg : Good h) (a : RefAt h p F q v n) (hb : badP F s) : W CP 45 [.ptr p 0, spV s] h = some (.int .i64 1, h, []) := by
  have b := a.blk
  have lv := a.row.len
  have nv := a.row.na
  rw [List.length_reverse] at lv
  obtain ⟨x, y, z⟩ := s
  obtain ⟨G1, hG1⟩ : ∃ G, h ++ [(⟨.tip false, .ints .i64 [x, y, z]⟩ : ABlk)] = G := ⟨_, rfl⟩
  have k1 : Keeps h G1 none := by rw [← hG1]; exact Keeps.app h [⟨.tip false, .ints .i64 [x, y, z]⟩] none rfl
  have c1 : G1[h.length]? = some ⟨.tip false, .ints .i64 [x, y, z]⟩ := by rw [← hG1]; exact fend _ _ _
  have c1l := (List.getElem?_eq_some_iff.1 c1).1
  have b1 := keepsN k1 _ _ b
  have b1l := (List.getElem?_eq_some_iff.1 b1).1
  have eM := fun g => ref_May (a := x) (l := y) (u := z) g
  refine W_quietP (m := M45) rfl rfl (by simp [AV.lts, AV.lt]) rfl rfl hg ?_
  by_cases hm : mayS x y z = true
  · rcases hb with hb | ⟨t, ht, hlt⟩
    · rw [hm] at hb; cases hb
    · rw [hm] at eM
      have hn := (List.getElem?_eq_some_iff.1 ht).1
      obtain ⟨m, hmm⟩ : ∃ m, F.L.length = m := ⟨_, rfl⟩
      rw [hmm] at lv hn
      have hle := a.le
      rw [hmm] at hle
      obtain ⟨k, hk⟩ : ∃ k, m = k + 1 := ⟨m - 1, by omega⟩
      have w1 : IntKind.i64.wrap ((m : Int) - 1) = (k : Int) := by rw [wr_i64 _ (by omega) (by omega)]; omega
      have hn' : (0 : Int) < (m : Int) := by omega
      have hr : F.L.reverse[k]? = some t := by rw [List.getElem?_reverse (by omega), hmm, show m - 1 - k = 0 by omega]; exact ht
      obtain ⟨bb, x1, x2, x3, x4, _⟩ := (a.row.kept k1).at0 hr
      simp only at hlt
      simp (maxDischargeDepth := 9) -implicitDefEqProofs only [push_cast, simprocAttr, M45, nadd1, nadd2, nadd3, nadd4, nadd5, nadd6, nadd7, nadd8, nadd9, nadd10, nadd11, nadd12, ABlk.new, hG1, c1, c1l, eM, b1, b1l, nv, lv, hn', w1, ↓uia_eq, x1, ↓uld_eq 25, x2, hlt]
      exact ⟨rfl, ⟨_, hG1.symm⟩, rfl⟩
  · rw [show mayS x y z = false from by simpa using hm] at eM
    simp (maxDischargeDepth := 9) -implicitDefEqProofs only [push_cast, simprocAttr, M45, nadd1, nadd2, nadd3, nadd4, nadd5, nadd6, nadd7, nadd8, nadd9, nadd10, nadd11, nadd12, ABlk.new, hG1, c1, c1l, eM]
    exact ⟨rfl, ⟨_, hG1.symm⟩, rfl⟩
theorem refPut_held {s : Sp} (hg : Good h) (a : RefAt h p F q v n) (hb : ¬ badP F s) (hj : jmpF F s) (hh : F.held = false) : ∃ ws, (∀ b ∈ ws, b = p) ∧ W CP 45 [.ptr p 0, spV s] h = some (.int .i64 35, h.set p ⟨.tip false, .vals [.ptr q 0, v, .int .i64 F.used, .bool true]⟩, ws) := by
  have b := a.blk
  have l := (List.getElem?_eq_some_iff.1 b).1
  have lv := a.row.len
  have nv := a.row.na
  have cv := a.row.cell
  rw [List.length_reverse] at lv
  have hlt := ref_lt a F.used true
  obtain ⟨x, y, z⟩ := s
  have hm : mayS x y z = true := by
    cases hmm : mayS x y z with
    | true => rfl
    | false => exact absurd (Or.inl hmm) hb
  obtain ⟨G1, hG1⟩ : ∃ G, h ++ [(⟨.tip false, .ints .i64 [x, y, z]⟩ : ABlk)] = G := ⟨_, rfl⟩
  have k1 : Keeps h G1 none := by rw [← hG1]; exact Keeps.app h [⟨.tip false, .ints .i64 [x, y, z]⟩] none rfl
  have c1 : G1[h.length]? = some ⟨.tip false, .ints .i64 [x, y, z]⟩ := by rw [← hG1]; exact fend _ _ _
  have c1l := (List.getElem?_eq_some_iff.1 c1).1
  have b1 := keepsN k1 _ _ b
  have b1l := (List.getElem?_eq_some_iff.1 b1).1
  have eM := fun g => ref_May (a := x) (l := y) (u := z) g
  rw [hm] at eM
  obtain ⟨jb, hjb, eJ⟩ := refJumps_any (s := (x, y, z)) (k1.2.2 hg) (a.kept k1) hm
  rw [hjb.2 hj] at eJ
  have hle := a.le
  have h3 := hj.2.1
  obtain ⟨t, ht⟩ : ∃ t, F.L[0]? = some t := ⟨_, List.getElem?_eq_getElem (by omega)⟩
  have hx : ¬ x < t.1 := fun e => hb (Or.inr ⟨t, ht, e⟩)
  obtain ⟨m, hmm⟩ : ∃ m, F.L.length = m := ⟨_, rfl⟩
  rw [hmm] at lv hle h3
  obtain ⟨k, hk⟩ : ∃ k, m = k + 1 := ⟨m - 1, by omega⟩
  have w1 : IntKind.i64.wrap ((m : Int) - 1) = (k : Int) := by rw [wr_i64 _ (by omega) (by omega)]; omega
  have hn' : (0 : Int) < (m : Int) := by omega
  have hr : F.L.reverse[k]? = some t := by rw [List.getElem?_reverse (by omega), hmm, show m - 1 - k = 0 by omega]; exact ht
  obtain ⟨bb, x1, x2, x3, x4, _⟩ := (a.row.kept k1).at0 hr
  rw [hh] at b1
  have hset : G1.set p ⟨.tip false, .vals [.ptr q 0, v, .int .i64 F.used, .bool true]⟩ = h.set p ⟨.tip false, .vals [.ptr q 0, v, .int .i64 F.used, .bool true]⟩ ++ [⟨.tip false, .ints .i64 [x, y, z]⟩] := by
    rw [← hG1, List.set_append_left _ _ l]
  refine (W_setJ (C := CP) (m := M45) rfl rfl (by simp [AV.lts, AV.lt]) rfl rfl hg l rfl hlt ?_)
  simp (maxDischargeDepth := 9) -implicitDefEqProofs only [push_cast, simprocAttr, M45, nadd1, nadd2, nadd3, nadd4, nadd5, nadd6, nadd7, nadd8, nadd9, nadd10, nadd11, nadd12, ABlk.new, hG1, c1, c1l, eM, b1, b1l, nv, cv, lv, hn', w1, ↓uia_eq, x1, ↓uld_eq 25, x2, hx, eJ, l, hset, List.mem_singleton, not_true_eq_false, and_false, if_false, true_and]
  exact ⟨⟨_, rfl⟩, by simp⟩
theorem appN {G : AHeap} {K : List Sp} {k : Nat} (hk : K.length = k) (hl : k < 1000) : ∃ w js, aappend G (.ints .i64 [0, 0, 0]) 24 .nils (.ints .i64 (flat3 K)) k = some (w, G ++ js, []) ∧ RW (G ++ js) w K G.length ∧ js.all notOld = true := by
  by_cases c : k = 0
  · subst c
    obtain rfl : K = [] := List.length_eq_zero_iff.1 hk
    exact ⟨.nils, [], by simp [aappend], RW.nil _ _, rfl⟩
  · have hr : room k 24 = true := by simp only [room, decide_eq_true_eq]; omega
    refine ⟨.gsl G.length 0 k 3 false, [⟨.tip false, .ints .i64 (flat3 K)⟩], ?_, Or.inr ⟨G.length, false, Nat.le_refl _, by simp, by rw [hk]⟩, rfl⟩
    simp [aappend, c, hr, ACells.len]
set_option maxHeartbeats 8000000 in
theorem refPut_ok {s : Sp} (hg : Good h) (a : RefAt h p F q v n) (hn : n ≤ h.length) (hb : ¬ badP F s) (hj : ¬ (jmpF F s ∧ F.held = false)) : ∃ v' H' ws, (∀ b ∈ ws, b = p) ∧ W CP 45 [.ptr p 0, spV s] h = some (.int .i64 0, H', ws) ∧
    RefAt H' p (addF F s) q v' n ∧ Good H' ∧ h.length ≤ H'.length ∧ (∀ (z : Nat) (x : ABlk), z ≠ p → h[z]? = some x → H'[z]? = some x) := by
  have b := a.blk
  have l := (List.getElem?_eq_some_iff.1 b).1
  have lv := a.row.len
  have nv := a.row.na
  have cv := a.row.cell
  rw [List.length_reverse] at lv
  obtain ⟨x, y, z⟩ := s
  have hm : mayS x y z = true := by
    cases hmm : mayS x y z with
    | true => rfl
    | false => exact absurd (Or.inl hmm) hb
  obtain ⟨G1, hG1⟩ : ∃ G, h ++ [(⟨.tip false, .ints .i64 [x, y, z]⟩ : ABlk)] = G := ⟨_, rfl⟩
  have k1 : Keeps h G1 none := by rw [← hG1]; exact Keeps.app h [⟨.tip false, .ints .i64 [x, y, z]⟩] none rfl
  have c1 : G1[h.length]? = some ⟨.tip false, .ints .i64 [x, y, z]⟩ := by rw [← hG1]; exact fend _ _ _
  have c1l := (List.getElem?_eq_some_iff.1 c1).1
  have b1 := keepsN k1 _ _ b
  have b1l := (List.getElem?_eq_some_iff.1 b1).1
  have eM := fun g => ref_May (a := x) (l := y) (u := z) g
  rw [hm] at eM
  obtain ⟨jb, hjb, eJ⟩ := refJumps_any (s := (x, y, z)) (k1.2.2 hg) (a.kept k1) hm
  have hle := a.le
  obtain ⟨m, hmm⟩ : ∃ m, F.L.length = m := ⟨_, rfl⟩
  rw [hmm] at lv hle
  -- what lies behind
  have hpn : p ≠ h.length := by omega
  obtain ⟨G2, hG2⟩ : ∃ G, G1.set p ⟨.tip false, .vals [.ptr q 0, v, .int .i64 F.used, .bool false]⟩ = G := ⟨_, rfl⟩
  have b2 : G2[p]? = some ⟨.tip false, .vals [.ptr q 0, v, .int .i64 F.used, .bool false]⟩ := by rw [← hG2]; exact List.getElem?_set_self b1l
  have b2l := (List.getElem?_eq_some_iff.1 b2).1
  have c2 : G2[h.length]? = some ⟨.tip false, .ints .i64 [x, y, z]⟩ := by rw [← hG2, List.getElem?_set_ne hpn]; exact c1
  have r2 : RW G2 v F.L.reverse n := by rw [← hG2]; exact (a.row.kept k1).setv b1 _
  have g2 : Good G2 := by rw [← hG2]; exact good_set (k1.2.2 hg) rfl
  have kp2 : ∀ (z : Nat) (x : ABlk), z ≠ p → h[z]? = some x → G2[z]? = some x := fun z x hz e => by rw [← hG2, List.getElem?_set_ne (Ne.symm hz)]; exact keepsN k1 _ _ e
  have le2 : h.length ≤ G2.length := by rw [← hG2, List.length_set]; exact k1.2.1
  have hrul : RulR G2 q F.t F.f := by rw [← hG2]; exact (a.rul.kept k1).setv b1 _
  obtain ⟨u, hu⟩ : ∃ u, F.used = u := ⟨_, rfl⟩
  rw [hu] at b1 hG2 b2
  -- the rest, of a row that is copied
  have rest : ∀ (K : List Sp) (k : Nat), K.length = k → k < 8 → K ++ [(x, y, z)] = (addF F (x, y, z)).L.reverse → ∃ w G3 G4 v' G5 ws5 H', aappend G2 (.ints .i64 [0, 0, 0]) 24 .nils (.ints .i64 (flat3 K)) k = some (w, G3, []) ∧ noAny (some w) = some w ∧ G3[h.length]? = some ⟨.tip false, .ints .i64 [x, y, z]⟩ ∧ h.length < G3.length ∧ G3 ++ [⟨.tip false, .ints .i64 [x, y, z]⟩] = G4 ∧
      newCells G4 (.ints .i64 [0, 0, 0]) (.sl G3.length 0 1 1) = some (.ints .i64 [x, y, z]) ∧ aappend G4 (.ints .i64 [0, 0, 0]) 24 w (.ints .i64 [x, y, z]) 1 = some (v', G5, ws5) ∧ (∀ ws, wadd h.length ws ws5 = ws) ∧ (∃ bz kz, v' = .gsl bz 0 kz 3 false) ∧ G5[p]? = some ⟨.tip false, .vals [.ptr q 0, v, .int .i64 u, .bool false]⟩ ∧ p < G5.length ∧
      G5.set p ⟨.tip false, .vals [.ptr q 0, v', .int .i64 u, .bool false]⟩ = H' ∧ v'.lt h.length = false ∧ RefAt H' p (addF F (x, y, z)) q v' n ∧ Good H' ∧ h.length ≤ H'.length ∧ (∀ (z : Nat) (x : ABlk), z ≠ p → h[z]? = some x → H'[z]? = some x) ∧ H'[p]? = some ⟨.tip false, .vals [.ptr q 0, v', .int .i64 u, .bool false]⟩ := by
    intro K k hK hk8 hKs
    obtain ⟨w, js, eA, rw3, hjs⟩ := appN (G := G2) hK (by omega)
    have k23 : Keeps G2 (G2 ++ js) none := Keeps.app _ _ _ hjs
    obtain ⟨G3, hG3⟩ : ∃ G, G2 ++ js = G := ⟨_, rfl⟩
    rw [hG3] at eA rw3 k23
    obtain ⟨G4, hG4⟩ : ∃ G, G3 ++ [(⟨.tip false, .ints .i64 [x, y, z]⟩ : ABlk)] = G := ⟨_, rfl⟩
    have k34 : Keeps G3 G4 none := by rw [← hG4]; exact Keeps.app G3 [⟨.tip false, .ints .i64 [x, y, z]⟩] none rfl
    have s4 : G4[G3.length]? = some ⟨.tip false, .ints .i64 [x, y, z]⟩ := by rw [← hG4]; exact fend _ _ _
    have l3 := k23.2.1
    have l4 := k34.2.1
    obtain ⟨v', G5, ws5, eB, rw5, hw5, k45, cv'⟩ := appW (s := (x, y, z)) (rw3.kept k34) (by omega) (by omega)
    have hblk : ∀ j, blkU w = some j → G2.length ≤ j := by
      intro j hj
      obtain ⟨rfl, _⟩ | ⟨bb, o, hbb, _, rfl⟩ := rw3
      · cases hj
      · cases hj; exact hbb
    have kk : ∀ (z : Nat) (x : ABlk), G2[z]? = some x → G5[z]? = some x := fun z x e => by
      have hz := (List.getElem?_eq_some_iff.1 e).1
      refine k45.1 z x (keepsN k34 _ _ (keepsN k23 _ _ e)) (fun j hj hs => ?_) (fun hj => ?_)
      · have h1 := hblk j hj
        have h2 := List.all_eq_true.1 g2 x (List.mem_of_getElem? e)
        unfold oldIn at h2
        rw [hs] at h2
        simp only [decide_eq_true_eq] at h2
        omega
      · have h1 := hblk z hj
        omega
    have g5 : Good G5 := k45.2.2 (k34.2.2 (k23.2.2 g2))
    have b5 := kk _ _ b2
    have b5l := (List.getElem?_eq_some_iff.1 b5).1
    have l5 := k45.2.1
    have hne : K ++ [(x, y, z)] ≠ [] := by simp
    have hvl := rw5.ltn hne
    refine ⟨w, G3, G4, v', G5, ws5, G5.set p ⟨.tip false, .vals [.ptr q 0, v', .int .i64 u, .bool false]⟩, eA, rw3.na, keepsN k23 _ _ c2, by have := (List.getElem?_eq_some_iff.1 c2).1; omega, hG4, newS (s := (x, y, z)) s4, eB, fun ws => wadd_ge fun bb hbb => ?_, (rw5.shape.resolve_left fun e => by rw [e] at hvl; cases hvl), b5, b5l, rfl, ?_, ⟨?_, ?_, ?_, ?_⟩, good_set g5 rfl, ?_, fun z' x' hz e => ?_, List.getElem?_set_self b5l⟩
    · have := hw5 bb hbb; omega
    · cases hvv : v'.lt h.length with
      | false => rfl
      | true => rw [AV.lt_mono le2 _ hvv] at hvl; cases hvl
    · show _ = some (⟨.tip false, .vals [.ptr q 0, v', .int .i64 F.used, .bool false]⟩ : ABlk)
      rw [hu]; exact List.getElem?_set_self b5l
    · rw [← hKs]
      exact (rw5.setv b5 _).mono (by omega)
    · unfold addF; simp only [List.length_take]; omega
    · have : RulR G5 q F.t F.f := by
        obtain ⟨q1, q2, q3⟩ := hrul
        exact ⟨kk _ _ q1, by omega, q3⟩
      exact this.setv b5 _
    · rw [List.length_set]; omega
    · rw [List.getElem?_set_ne (Ne.symm hz)]; exact kk _ _ (kp2 _ _ hz e)
  have fin : ∀ {v' : AV} {H' : AHeap} {ws : List Nat}, xbody (W CP) M45 [.ptr p 0, spV (x, y, z)] h = some (.int .i64 0, H', ws) → ws = [p] → v'.lt h.length = false → H'[p]? = some ⟨.tip false, .vals [.ptr q 0, v', .int .i64 u, .bool false]⟩ →
      W CP 45 [.ptr p 0, spV (x, y, z)] h = some (.int .i64 0, H', ws) := by
    intro v' H' ws e hws hv' hp'
    rw [W_body (m := M45) rfl rfl (by simp [AV.lts, AV.lt]) e, show (M45).trim = true from rfl, if_pos rfl, trim_not (b := p) (by rw [hws]; simp) hp' (by simp [ACells.lt, AV.lts, hv'])]
  have w1 : ∀ k, m = k + 1 → IntKind.i64.wrap ((m : Int) - 1) = (k : Int) := fun k hk => by rw [wr_i64 _ (by omega) (by omega)]; omega
  have hdd : F.held = true ∨ F.held = false := by cases F.held <;> simp
  by_cases hm8 : m = 8
  · have hn' : (0 : Int) < (m : Int) := by omega
    have hm8' : (m : Int) = 8 := by omega
    obtain ⟨t, ht⟩ : ∃ t, F.L[0]? = some t := ⟨_, List.getElem?_eq_getElem (by omega)⟩
    have hx : ¬ x < t.1 := fun e => hb (Or.inr ⟨t, ht, e⟩)
    have w1 := w1 7 hm8
    have hr : F.L.reverse[7]? = some t := by rw [List.getElem?_reverse (by omega), hmm, hm8]; exact ht
    obtain ⟨bb, x1, x2, x3, x4, _⟩ := (a.row.kept k1).at0 hr
    have hK : (F.L.reverse.drop 1) ++ [(x, y, z)] = (addF F (x, y, z)).L.reverse := by
      unfold addF
      simp only [List.take_succ_cons, List.reverse_cons]
      rw [List.reverse_take, hmm, hm8]
    obtain ⟨w, G3, G4, v', G5, ws5, H', eA, nw, c3, c3l, hG4, eS, eB, hws, ⟨bz, kz, rfl⟩, b5, b5l, hH', hvl, ra, gH, lH, kH, bH⟩ := rest (F.L.reverse.drop 1) 7 (by rw [List.length_drop, List.length_reverse]; omega) (by omega) hK
    obtain ⟨rfl, hnil⟩ | ⟨bv, o, hbv, ebv, rfl⟩ := r2
    · have : F.L.reverse.length = 0 := by rw [hnil]; rfl
      rw [List.length_reverse] at this
      omega
    rw [show F.L.reverse.length = 8 by rw [List.length_reverse]; omega] at *
    have eN := newW1 (k := 7) ebv (by rw [List.length_reverse]; omega)
    have main : xbody (W CP) M45 [.ptr p 0, spV (x, y, z)] h = some (.int .i64 0, H', [p]) := by
      rcases hdd with hd | hd
      · rw [hd] at b1
        simp (maxDischargeDepth := 9) -implicitDefEqProofs only [push_cast, simprocAttr, M45, nadd1, nadd2, nadd3, nadd4, nadd5, nadd6, nadd7, nadd8, nadd9, nadd10, nadd11, nadd12, ABlk.new, hG1, c1, c1l, eM, b1, b1l, hn', hm8', w1, ↓uia_eq, x1, ↓uld_eq 25, x2, hx, hG2, b2, b2l, eN, eA, nw, c3, c3l, hG4, eS, eB, hws, b5, b5l, hH', l, List.mem_singleton, not_true_eq_false, and_false, if_false, true_and]
      · have hjf : jb = false := by
          cases hjj : jb with
          | false => rfl
          | true => exact absurd ⟨hjb.1 hjj, hd⟩ hj
        rw [hjf] at eJ
        rw [hd] at b1
        simp (maxDischargeDepth := 9) -implicitDefEqProofs only [push_cast, simprocAttr, M45, nadd1, nadd2, nadd3, nadd4, nadd5, nadd6, nadd7, nadd8, nadd9, nadd10, nadd11, nadd12, ABlk.new, hG1, c1, c1l, eM, b1, b1l, hn', hm8', w1, ↓uia_eq, x1, ↓uld_eq 25, x2, hx, eJ, hG2, b2, b2l, eN, eA, nw, c3, c3l, hG4, eS, eB, hws, b5, b5l, hH', l, List.mem_singleton, not_true_eq_false, and_false, if_false, true_and]
    exact ⟨_, H', [p], by simp, fin main rfl hvl bH, ra, gH, lH, kH⟩
  · have hm8' : ¬ (m : Int) = 8 := by omega
    have hK : F.L.reverse ++ [(x, y, z)] = (addF F (x, y, z)).L.reverse := by
      unfold addF
      simp only [List.take_succ_cons, List.reverse_cons]
      rw [List.take_of_length_le (by omega)]
    obtain ⟨w, G3, G4, v', G5, ws5, H', eA, nw, c3, c3l, hG4, eS, eB, hws, ⟨bz, kz, rfl⟩, b5, b5l, hH', hvl, ra, gH, lH, kH, bH⟩ := rest F.L.reverse m (by rw [List.length_reverse]; exact hmm) (by omega) hK
    have eN := newW r2
    have main : xbody (W CP) M45 [.ptr p 0, spV (x, y, z)] h = some (.int .i64 0, H', [p]) := by
      by_cases hm0 : (0 : Int) < (m : Int)
      · obtain ⟨t, ht⟩ : ∃ t, F.L[0]? = some t := ⟨_, List.getElem?_eq_getElem (by omega)⟩
        have hx : ¬ x < t.1 := fun e => hb (Or.inr ⟨t, ht, e⟩)
        obtain ⟨k, hk⟩ : ∃ k, m = k + 1 := ⟨m - 1, by omega⟩
        have w1 := w1 k hk
        have hr : F.L.reverse[k]? = some t := by rw [List.getElem?_reverse (by omega), hmm, show m - 1 - k = 0 by omega]; exact ht
        obtain ⟨bb, x1, x2, x3, x4, _⟩ := (a.row.kept k1).at0 hr
        rcases hdd with hd | hd
        · rw [hd] at b1
          simp (maxDischargeDepth := 9) -implicitDefEqProofs only [push_cast, simprocAttr, M45, nadd1, nadd2, nadd3, nadd4, nadd5, nadd6, nadd7, nadd8, nadd9, nadd10, nadd11, nadd12, ABlk.new, hG1, c1, c1l, eM, b1, b1l, nv, cv, lv, hm0, hm8', w1, ↓uia_eq, x1, ↓uld_eq 25, x2, hx, hG2, b2, b2l, eN, eA, nw, c3, c3l, hG4, eS, eB, hws, b5, b5l, hH', l, List.mem_singleton, not_true_eq_false, and_false, if_false, true_and]
        · have hjf : jb = false := by
            cases hjj : jb with
            | false => rfl
            | true => exact absurd ⟨hjb.1 hjj, hd⟩ hj
          rw [hjf] at eJ
          rw [hd] at b1
          simp (maxDischargeDepth := 9) -implicitDefEqProofs only [push_cast, simprocAttr, M45, nadd1, nadd2, nadd3, nadd4, nadd5, nadd6, nadd7, nadd8, nadd9, nadd10, nadd11, nadd12, ABlk.new, hG1, c1, c1l, eM, b1, b1l, nv, cv, lv, hm0, hm8', w1, ↓uia_eq, x1, ↓uld_eq 25, x2, hx, eJ, hG2, b2, b2l, eN, eA, nw, c3, c3l, hG4, eS, eB, hws, b5, b5l, hH', l, List.mem_singleton, not_true_eq_false, and_false, if_false, true_and]
      · have hjf : jb = false := by
          cases hjj : jb with
          | false => rfl
          | true => have := (hjb.1 hjj).2.1; omega
        rw [hjf] at eJ
        rcases hdd with hd | hd
        · rw [hd] at b1
          simp (maxDischargeDepth := 9) -implicitDefEqProofs only [push_cast, simprocAttr, M45, nadd1, nadd2, nadd3, nadd4, nadd5, nadd6, nadd7, nadd8, nadd9, nadd10, nadd11, nadd12, ABlk.new, hG1, c1, c1l, eM, b1, b1l, nv, cv, lv, hm0, hm8', hG2, b2, b2l, eN, eA, nw, c3, c3l, hG4, eS, eB, hws, b5, b5l, hH', l, List.mem_singleton, not_true_eq_false, and_false, if_false, true_and]
        · rw [hd] at b1
          simp (maxDischargeDepth := 9) -implicitDefEqProofs only [push_cast, simprocAttr, M45, nadd1, nadd2, nadd3, nadd4, nadd5, nadd6, nadd7, nadd8, nadd9, nadd10, nadd11, nadd12, ABlk.new, hG1, c1, c1l, eM, b1, b1l, nv, cv, lv, hm0, hm8', eJ, hG2, b2, b2l, eN, eA, nw, c3, c3l, hG4, eS, eB, hws, b5, b5l, hH', l, List.mem_singleton, not_true_eq_false, and_false, if_false, true_and]
    exact ⟨_, H', [p], by simp, fin main rfl hvl bH, ra, gH, lH, kH⟩
theorem refPut_c {s : Sp} (hg : Good h) (a : RefAt h p F q v n) (hn : n ≤ h.length) : ∃ v' H' ws, (∀ b ∈ ws, b = p) ∧ W CP 45 [.ptr p 0, spV s] h = some (.int .i64 (putF F s).1, H', ws) ∧
    RefAt H' p (putF F s).2 q v' n ∧ Good H' ∧ h.length ≤ H'.length ∧ (∀ (z : Nat) (x : ABlk), z ≠ p → h[z]? = some x → H'[z]? = some x) := by
  unfold putF
  by_cases c1 : badP F s
  · rw [if_pos c1]
    exact ⟨v, h, [], by simp, refPut_bad hg a c1, a, hg, Nat.le_refl _, fun z x _ e => e⟩
  · rw [if_neg c1]
    by_cases c2 : jmpF F s ∧ F.held = false
    · rw [if_pos c2]
      obtain ⟨ws, hw, e⟩ := refPut_held hg a c1 c2.1 c2.2
      exact ⟨v, _, ws, hw, e, a.again F.used true, good_set hg rfl, by rw [List.length_set]; exact Nat.le_refl _, fun z x hz e => by rw [List.getElem?_set_ne (Ne.symm hz)]; exact e⟩
    · rw [if_neg c2]
      exact refPut_ok hg a hn c1 c2
end
end Go.Proofs.YthcjmmngenogmaaW.AI.E
