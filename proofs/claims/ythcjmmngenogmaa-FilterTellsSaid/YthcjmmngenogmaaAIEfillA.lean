import Derived.Test.YthcjmmngenogmaaAIEfilk
import Derived.Test.YthcjmmngenogmaaAIEfill1
namespace Go.Proofs.YthcjmmngenogmaaW.AI.E
open Go Go.Proofs.YthcjmmngenogmaaW.AI
set_option maxRecDepth 100000
set_option linter.unusedSimpArgs false
set_option linter.unusedVariables false
set_option linter.unusedSectionVars false
section
variable {h : AHeap} {p q : Nat} {F : FS} {v : AV} {n : Nat}
def RUse (h : AHeap) (p q : Nat) (v : AV) (F : FS) (raw : Int) (r : AV × AHeap × List Nat) : Prop :=
    ((srcS F raw).1 ≤ F.used → r.1 = .tup [spA 0 0 0, .bool false] ∧ (∃ js, r.2.1 = h ++ js) ∧ r.2.2 = []) ∧
    (¬ (srcS F raw).1 ≤ F.used → r.1 = .tup [spV (bestS (ageL F raw)), .bool true] ∧ (∃ js, r.2.1 = h.set p ⟨.tip false, .vals [.ptr q 0, v, .int .i64 (srcS F raw).1, .bool F.held]⟩ ++ js) ∧ ∀ b ∈ r.2.2, b = p)
theorem refUse_no {raw : Int} (hg : Good h) (a : RefAt h p F q v n) (hc : ¬ canL F raw) : W CP 46 [.ptr p 0, .int .i64 raw] h = some (.tup [spA 0 0 0, .bool false], h, []) := by
  have k0 : Keeps h (h ++ [(⟨.tip false, .ints .i64 [0, 0, 0]⟩ : ABlk)]) none := Keeps.app h [⟨.tip false, .ints .i64 [0, 0, 0]⟩] none rfl
  have eB := refBest_c (raw := raw) (k0.2.2 hg) (a.kept k0)
  have hat : atO F raw = -1 := if_neg hc
  have hbo : bestO F raw = ((0, 0, 0), false) := if_neg hc
  rw [hat, hbo] at eB
  have hself : ¬ h.length < h.length := Nat.lt_irrefl _
  refine W_quietP (m := M46) rfl rfl (by simp [AV.lts, AV.lt]) rfl rfl hg ?_
  simp (maxDischargeDepth := 9) -implicitDefEqProofs only [push_cast, simprocAttr, M46, nadd1, nadd2, nadd3, nadd4, nadd5, nadd6, nadd7, nadd8, nadd9, nadd10, nadd11, nadd12, ABlk.new, eB, hself]
  exact quiet_i
set_option maxHeartbeats 4000000 in
theorem refUse_walk {raw : Int} (hg : Good h) (a : RefAt h p F q v n) (hc : canL F raw) : Wp (xbody (W CP) M46 [.ptr p 0, .int .i64 raw] h) (RUse h p q v F raw) := by
  have l0 := (List.getElem?_eq_some_iff.1 a.blk).1
  have nv := a.row.na
  have cv := a.row.cell
  obtain ⟨Y0, hY0⟩ : ∃ Y, h ++ [(⟨.tip false, .ints .i64 [0, 0, 0]⟩ : ABlk)] = Y := ⟨_, rfl⟩
  have k0 : Keeps h Y0 none := by rw [← hY0]; exact Keeps.app h [⟨.tip false, .ints .i64 [0, 0, 0]⟩] none rfl
  have a0 := a.kept k0
  have eB := refBest_c (raw := raw) (k0.2.2 hg) a0
  have hat : atO F raw = atR F raw := if_pos hc
  have hbo : bestO F raw = (bestS (ageL F raw), true) := if_pos hc
  rw [hat, hbo] at eB
  have hsrc := src_at hc
  have hbl := (List.getElem?_eq_some_iff.1 hsrc).1
  obtain ⟨k, hk⟩ : ∃ k, F.L.length - 1 - bestN (ageL F raw) F.L.length = k := ⟨_, rfl⟩
  have hr : F.L.reverse[k]? = some (srcS F raw) := by
    rw [List.getElem?_reverse (by omega), ← hk, show F.L.length - 1 - (F.L.length - 1 - bestN (ageL F raw) F.L.length) = bestN (ageL F raw) F.L.length by omega]
    exact hsrc
  have hak : atR F raw = (k : Int) := by unfold atR; rw [hk]
  rw [hak] at eB
  have hk0 : ¬ (k : Int) < 0 := by omega
  obtain ⟨B, hB⟩ : ∃ B, bestS (ageL F raw) = B := ⟨_, rfl⟩
  rw [hB] at eB
  unfold RUse
  rw [hB]
  obtain ⟨b1, b2, b3⟩ := B
  have hl0 : Y0.length = h.length + 1 := by rw [← hY0]; simp
  have z0 : Y0[h.length]? = some ⟨.tip false, .ints .i64 [0, 0, 0]⟩ := by rw [← hY0]; exact fend _ _ _
  obtain ⟨Y1, hY1⟩ : ∃ Y, Y0 ++ [(⟨.tip false, .ints .i64 [b1, b2, b3]⟩ : ABlk)] = Y := ⟨_, rfl⟩
  have k1 : Keeps Y0 Y1 none := by rw [← hY1]; exact Keeps.app Y0 [⟨.tip false, .ints .i64 [b1, b2, b3]⟩] none rfl
  have a1 := a0.kept k1
  have bp := a1.blk
  have bpl := (List.getElem?_eq_some_iff.1 bp).1
  have z1 := keepsN k1 _ _ z0
  have z1l := (List.getElem?_eq_some_iff.1 z1).1
  have t1 : Y1[h.length + 1]? = some ⟨.tip false, .ints .i64 [b1, b2, b3]⟩ := by rw [← hY1, ← hl0]; exact fend _ _ _
  have hself : ¬ h.length < h.length := Nat.lt_irrefl _
  have hself1 : ¬ h.length + 1 < h.length := by omega
  obtain ⟨bb, x1, x2, x3, x4, o, cc, x5⟩ := a1.row.at0 hr
  obtain ⟨s1, hs1⟩ : ∃ s, (srcS F raw).1 = s := ⟨_, rfl⟩
  rw [hs1] at x2 ⊢
  have hYY : Y1 = h ++ [⟨.tip false, .ints .i64 [0, 0, 0]⟩, ⟨.tip false, .ints .i64 [b1, b2, b3]⟩] := by rw [← hY1, ← hY0]; simp
  by_cases c : s1 ≤ F.used
  · simp (maxDischargeDepth := 9) -implicitDefEqProofs only [push_cast, simprocAttr, M46, nadd1, nadd2, nadd3, nadd4, nadd5, nadd6, nadd7, nadd8, nadd9, nadd10, nadd11, nadd12, ABlk.new, hY0, eB, hk0, hl0, hY1, bp, bpl, nv, ↓uia_eq, x1, ↓uld_eq 23, x2, c, z1, z1l, hself, hself1]
    refine ⟨fun _ => ?_, fun e => False.elim (by first | exact e | exact e c)⟩
    exact ⟨_, by rw [hYY, List.set_append_right _ _ (Nat.le_refl _)]⟩
  · have hpn : p ≠ h.length := by omega
    have hpn1 : p ≠ h.length + 1 := by omega
    obtain ⟨Y2, hY2⟩ : ∃ Y, Y1.set p ⟨.tip false, .vals [.ptr q 0, v, .int .i64 s1, .bool F.held]⟩ = Y := ⟨_, rfl⟩
    have z2 : Y2[h.length]? = some ⟨.tip false, .ints .i64 [0, 0, 0]⟩ := by rw [← hY2, List.getElem?_set_ne hpn]; exact z1
    have z2l := (List.getElem?_eq_some_iff.1 z2).1
    have t2 : Y2[h.length + 1]? = some ⟨.tip false, .ints .i64 [b1, b2, b3]⟩ := by rw [← hY2, List.getElem?_set_ne hpn1]; exact t1
    have t2l := (List.getElem?_eq_some_iff.1 t2).1
    have hfin : ∀ zz : ABlk, Y2.set h.length zz = h.set p ⟨.tip false, .vals [.ptr q 0, v, .int .i64 s1, .bool F.held]⟩ ++ [zz, ⟨.tip false, .ints .i64 [b1, b2, b3]⟩] := fun zz => by
      rw [← hY2, hYY, List.set_append_left _ _ l0, List.set_append_right _ _ (by simp), List.length_set, Nat.sub_self]
      rfl
    simp (maxDischargeDepth := 9) -implicitDefEqProofs only [push_cast, simprocAttr, M46, nadd1, nadd2, nadd3, nadd4, nadd5, nadd6, nadd7, nadd8, nadd9, nadd10, nadd11, nadd12, ABlk.new, hY0, eB, hk0, hl0, hY1, bp, bpl, nv, cv, ↓uia_eq, x1, ↓uld_eq 23, ↓uld_eq 39, x2, c, hY2, z2, z2l, t2, t2l, hself, hself1, hfin, l0, List.mem_singleton, not_true_eq_false, and_false, if_false, true_and]
    exact ⟨fun e => False.elim (by first | exact e | exact c e), fun _ => ⟨⟨_, rfl⟩, by simp⟩⟩
theorem refUse_c {raw : Int} (hg : Good h) (a : RefAt h p F q v n) : ∃ X ws, (∀ b ∈ ws, b = p) ∧ W CP 46 [.ptr p 0, .int .i64 raw] h = some (.tup [spV (useO F raw).1, .bool (useO F raw).2.1], h.set p X, ws) ∧ notOld X = true ∧ RefAt (h.set p X) p (useO F raw).2.2 q v n := by
  have hsame : h.set p ⟨.tip false, .vals [.ptr q 0, v, .int .i64 F.used, .bool F.held]⟩ = h := set_sameF a.blk
  unfold useO
  by_cases c1 : canL F raw ∧ ¬ (srcS F raw).1 ≤ F.used
  · rw [if_pos c1]
    have l := (List.getElem?_eq_some_iff.1 a.blk).1
    obtain ⟨ws, hw, e⟩ := W_setJ (C := CP) (f := 46) (m := M46) rfl rfl (by simp [AV.lts, AV.lt]) rfl (by simp [AV.lt, AV.lts]) hg l rfl (ref_lt a (srcS F raw).1 F.held) ((refUse_walk hg a c1.1).mono fun q hq => hq.2 c1.2)
    exact ⟨_, ws, hw, e, rfl, a.again _ _⟩
  · rw [if_neg c1]
    refine ⟨⟨.tip false, .vals [.ptr q 0, v, .int .i64 F.used, .bool F.held]⟩, [], by simp, ?_, rfl, by rw [hsame]; exact a⟩
    rw [hsame]
    by_cases c2 : canL F raw
    · exact W_quietP (m := M46) rfl rfl (by simp [AV.lts, AV.lt]) rfl rfl hg ((refUse_walk hg a c2).mono fun q hq => hq.1 (Classical.byContradiction fun e => c1 ⟨c2, e⟩))
    · exact refUse_no hg a c2
end
end Go.Proofs.YthcjmmngenogmaaW.AI.E
namespace Go.Proofs.YthcjmmngenogmaaW.AI.E
open Go Go.Proofs.YthcjmmngenogmaaW.AI
set_option maxRecDepth 100000
set_option linter.unusedSimpArgs false
set_option linter.unusedVariables false
set_option linter.unusedSectionVars false
/-- Both filters, in a heap behind g. -/
structure FT (g h : AHeap) (p r p2 q : Nat) (F : FS) (C : List Int) (v : AV) : Prop where
  good : Good h
  fil : FilAt h p F r C
  ref : RefAt h p2 F q v g.length
  gp : g.length ≤ p
  gp2 : g.length ≤ p2
  gh : ∀ (j : Nat) (x : ABlk), g[j]? = some x → h[j]? = some x
  gl : g.length ≤ h.length
section
variable {g h : AHeap} {p r p2 q : Nat} {F : FS} {C : List Int} {v : AV}
theorem FT.np (a : FT g h p r p2 q F C v) : p ≠ p2 := by
  intro e
  have h1 := a.fil.blk
  have h2 := a.ref.blk
  rw [e, h2] at h1
  have hC := a.fil.len
  simp only [Option.some.injEq, ABlk.mk.injEq, true_and, ACells.vals.injEq] at h1
  have := congrArg List.length h1
  rw [fX_len hC] at this
  simp at this
theorem FT.nr (a : FT g h p r p2 q F C v) : r ≠ p := by
  intro e
  obtain ⟨h1, _⟩ := a.fil.rul
  rw [e, a.fil.blk] at h1
  have hC := a.fil.len
  simp only [Option.some.injEq, ABlk.mk.injEq, true_and, ACells.vals.injEq] at h1
  have := congrArg List.length h1
  rw [fX_len hC] at this
  simp at this
theorem FT.nr2 (a : FT g h p r p2 q F C v) : r ≠ p2 := by
  intro e
  obtain ⟨h1, _⟩ := a.fil.rul
  rw [e, a.ref.blk] at h1
  simp at h1
theorem FT.kept {h' : AHeap} (a : FT g h p r p2 q F C v) (k : Keeps h h' none) : FT g h' p r p2 q F C v :=
  ⟨k.2.2 a.good, a.fil.kept k, a.ref.kept k, a.gp, a.gp2, fun j x e => keepsN k _ _ (a.gh j x e), by have := a.gl; have := k.2.1; omega⟩
theorem FilAt.but {h' : AHeap} (a : FilAt h p F r C) {z : Nat} (hk : ∀ (j : Nat) (x : ABlk), j ≠ z → h[j]? = some x → h'[j]? = some x) (h1 : p ≠ z) (h2 : r ≠ z) (hl : h.length ≤ h'.length) : FilAt h' p F r C := by
  obtain ⟨q1, q2, q3⟩ := a.rul
  exact ⟨hk _ _ h1 a.blk, a.len, a.tk, a.le, hk _ _ h2 q1, by omega, q3⟩
theorem FT.put (a : FT g h p r p2 q F C v) (s : Sp) : ∃ H1 ws1 C' v' H2 ws2, W CP 34 [.ptr p 0, spV s] h = some (.int .i64 (putF F s).1, H1, ws1) ∧ (∀ b ∈ ws1, b = p) ∧ H1.length = h.length ∧ (∀ (j : Nat) (x : ABlk), j ≠ p → h[j]? = some x → H1[j]? = some x) ∧
    W CP 45 [.ptr p2 0, spV s] H1 = some (.int .i64 (putF F s).1, H2, ws2) ∧ (∀ b ∈ ws2, b = p2) ∧ FT g H2 p r p2 q (putF F s).2 C' v' ∧ (∀ (j : Nat) (x : ABlk), j ≠ p → j ≠ p2 → h[j]? = some x → H2[j]? = some x) := by
  obtain ⟨C', X, ws1, hw1, e1, nX, f1⟩ := put_c (s := s) a.good a.fil a.nr
  have hg1 := good_set (p := p) a.good nX
  have r1 := a.ref.other (z := p) a.fil.blk a.np X
  have hl1 : (h.set p X).length = h.length := List.length_set
  obtain ⟨v', H2, ws2, hw2, e2, r2, g2, l2, k2⟩ := refPut_c (s := s) hg1 r1 (by rw [hl1]; exact a.gl)
  have kk : ∀ (j : Nat) (x : ABlk), j ≠ p → h[j]? = some x → (h.set p X)[j]? = some x := fun j x hj e => by rw [List.getElem?_set_ne (Ne.symm hj)]; exact e
  have np := a.np
  have nr2 := a.nr2
  have gp := a.gp
  have gp2 := a.gp2
  have gl := a.gl
  refine ⟨h.set p X, ws1, C', v', H2, ws2, e1, hw1, hl1, kk, e2, hw2, ⟨g2, f1.but k2 np nr2 l2, r2, gp, gp2, fun j x e => ?_, by omega⟩, fun j x h1 h2 e => k2 j x h2 (kk j x h1 e)⟩
  have := (List.getElem?_eq_some_iff.1 e).1
  exact k2 j x (by omega) (kk j x (by omega) (a.gh j x e))
theorem FT.use (a : FT g h p r p2 q F C v) (raw : Int) (ks : AHeap) (hks : ks.all notOld = true) : ∃ H1 ws1, W CP 39 [.ptr p 0, .int .i64 raw] h = some (.tup [spV (useO F raw).1, .bool (useO F raw).2.1], H1, ws1) ∧ (∀ b ∈ ws1, b = p) ∧ H1.length = h.length ∧ (∀ (j : Nat) (x : ABlk), j ≠ p → h[j]? = some x → H1[j]? = some x) ∧
    ∃ H2 ws2, W CP 46 [.ptr p2 0, .int .i64 raw] (H1 ++ ks) = some (.tup [spV (useO F raw).1, .bool (useO F raw).2.1], H2, ws2) ∧ (∀ b ∈ ws2, b = p2) ∧ H2.length = (H1 ++ ks).length ∧ FT g H2 p r p2 q (useO F raw).2.2 C v ∧ (∀ (j : Nat) (x : ABlk), j ≠ p2 → (H1 ++ ks)[j]? = some x → H2[j]? = some x) := by
  obtain ⟨X, ws1, hw1, e1, nX, f1⟩ := use_c (raw := raw) a.good a.fil a.nr
  have hg1 := good_set (p := p) a.good nX
  have r1 := a.ref.other (z := p) a.fil.blk a.np X
  have hl1 : (h.set p X).length = h.length := List.length_set
  obtain ⟨Y, ws2, hw2, e2, nY, r2⟩ := refUse_c (raw := raw) (good_app hg1 hks) (r1.app ks)
  have kk : ∀ (j : Nat) (x : ABlk), j ≠ p → h[j]? = some x → (h.set p X)[j]? = some x := fun j x hj e => by rw [List.getElem?_set_ne (Ne.symm hj)]; exact e
  have np := a.np
  have nr2 := a.nr2
  have gp := a.gp
  have gp2 := a.gp2
  have gl := a.gl
  have kj : ∀ (j : Nat) (x : ABlk), j ≠ p2 → (h.set p X ++ ks)[j]? = some x → ((h.set p X ++ ks).set p2 Y)[j]? = some x := fun j x hj e => by rw [List.getElem?_set_ne (Ne.symm hj)]; exact e
  refine ⟨h.set p X, ws1, e1, hw1, hl1, kk, (h.set p X ++ ks).set p2 Y, ws2, e2, hw2, List.length_set, ⟨good_set (good_app hg1 hks) nY, (f1.app ks).but kj np nr2 (by rw [List.length_set]; exact Nat.le_refl _), r2, gp, gp2, fun j x e => ?_, by simp; omega⟩, kj⟩
  have := (List.getElem?_eq_some_iff.1 e).1
  refine kj j x (by omega) ?_
  have h1 := kk j x (by omega) (a.gh j x e)
  rw [List.getElem?_append_left (List.getElem?_eq_some_iff.1 h1).1]
  exact h1
/-- Something is done to a filter of which nothing is asked behind it. -/
theorem other_c {F' : FS} {C' : List Int} {z r' : Nat} (hg : Good h) (a : FilAt h z F' r' C') (hr : r' ≠ z) (s : Sp) (raw : Int) : ∃ c1 H1 ws1 v2 H2 ws2, W CP 34 [.ptr z 0, spV s] h = some (.int .i64 c1, H1, ws1) ∧ (∀ b ∈ ws1, b = z) ∧ W CP 39 [.ptr z 0, .int .i64 raw] H1 = some (v2, H2, ws2) ∧ (∀ b ∈ ws2, b = z) ∧
    ∃ X, H2 = h.set z X ∧ notOld X = true := by
  obtain ⟨C1, X, ws1, hw1, e1, nX, f1⟩ := put_c (s := s) hg a hr
  obtain ⟨Y, ws2, hw2, e2, nY, f2⟩ := use_c (raw := raw) (good_set (p := z) hg nX) f1 hr
  exact ⟨_, _, ws1, _, _, ws2, e1, hw1, e2, hw2, Y, by rw [List.set_set], nY⟩
theorem FT.copy (a : FT g h p r p2 q F C v) (X Y : ABlk) (hX : notOld X = true) (hY : Y = ⟨.tip false, .vals (fX r C F.L.length F.used F.held)⟩) : FT g (h.set p X ++ [Y]) h.length r p2 q F C v ∧ FT g (h ++ [X]) p r p2 q F C v := by
  have nr := a.nr
  have np := a.np
  have gp := a.gp
  have gp2 := a.gp2
  have gl := a.gl
  have lp := (List.getElem?_eq_some_iff.1 a.fil.blk).1
  obtain ⟨q1, q2, q3⟩ := a.fil.rul
  have k0 : Keeps h (h ++ [X]) none := by
    refine Keeps.app h [X] none ?_
    simp [hX]
  refine ⟨⟨good_app (good_set a.good hX) (by rw [hY]; rfl), ⟨?_, a.fil.len, a.fil.tk, a.fil.le, ?_⟩, (a.ref.other (z := p) a.fil.blk np X).app _, gl, gp2, fun j x e => ?_, by simp; omega⟩, a.kept k0⟩
  · rw [List.getElem?_append_right (by simp), List.length_set, Nat.sub_self, hY]; rfl
  · refine ⟨?_, by simp; omega, q3⟩
    rw [List.getElem?_append_left (by rw [List.length_set]; exact q2), List.getElem?_set_ne (Ne.symm nr)]; exact q1
  · have := (List.getElem?_eq_some_iff.1 e).1
    rw [List.getElem?_append_left (by rw [List.length_set]; omega), List.getElem?_set_ne (by omega)]
    exact a.gh j x e
end
/-- A row of calls. -/
def CallsAt (g : AHeap) (v : AV) (n : Nat) : Prop :=
  (v = .nils ∧ n = 0) ∨ ∃ b c zs, v = .sl b 0 n c ∧ n ≤ c ∧ b < g.length ∧ g[b]? = some ⟨.ext, .ints .i64 zs⟩ ∧ 5 * n ≤ zs.length
theorem CallsAt.len {g v n} (a : CallsAt g v n) : slen v = some n := by
  rcases a with ⟨rfl, rfl⟩ | ⟨b, c, zs, rfl, _⟩ <;> rfl
/-- What stands behind a call. -/
def AftF (g : AHeap) (c r p2 q : Nat) (sv : AV) (i : Nat) (cell : ABlk) (o : AOut) : Prop :=
  ∃ p' F' C' v' h3, o = (.normal, [(2, sv), (7, .ptr p' 0), (9, .ptr p2 0), (11, .int .i64 (i : Int)), (12, .ptr c 0), (13, .bool true)], h3, []) ∧ FT g h3 p' r p2 q F' C' v' ∧ h3[c]? = some cell
theorem sc3T {s : Sp} : aeq [5, 0, 0, 0] (spV s) (spV s) = some true := by
  obtain ⟨x, y, z⟩ := s
  simp [aeq, scEqs, scEq]
theorem contF {ws : List Nat} {p b : Nat} (h : ∀ x ∈ ws, x = p) (hb : p ≠ b) : ws.contains b = false := by
  rw [Bool.eq_false_iff]
  intro e
  have := h b (by simpa using e)
  exact hb this.symm
end Go.Proofs.YthcjmmngenogmaaW.AI.E
