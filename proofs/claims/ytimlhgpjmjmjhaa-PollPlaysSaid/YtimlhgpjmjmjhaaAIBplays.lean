import Derived.Test.YtimlhgpjmjmjhaaAIBrel
namespace Go.Proofs.YtimlhgpjmjmjhaaW.AI.B
open Go Go.Proofs.YtimlhgpjmjmjhaaW.AI
set_option maxRecDepth 100000
set_option linter.unusedSimpArgs false
set_option linter.unusedVariables false
set_option linter.unusedSectionVars false

/-- A slice of things that happen. -/
def ActsAt (g : AHeap) (v : AV) (n : Nat) : Prop :=
  (v = .nils ∧ n = 0) ∨ ∃ b o c zs, v = .sl b o n c ∧ n ≤ c ∧ b < g.length ∧ g[b]? = some ⟨.ext, .ints .i64 zs⟩ ∧ o + 3 * n ≤ zs.length
theorem ActsAt.len {g v n} (a : ActsAt g v n) : slen v = some n := by
  rcases a with ⟨rfl, rfl⟩ | ⟨b, o, c, zs, rfl, _⟩ <;> rfl

/-- What stands behind a happening. -/
def After (g : AHeap) (r c : Nat) (sv : AV) (n i : Nat) (cell : ABlk) (o : AOut) : Prop :=
  ∃ p' P' R' h3, o = (.normal, [(5, .ptr p' 0), (7, .ptr r 0), (10, .ptr c 0), (11, .bool true), (61, sv), (62, .int .i64 (n : Int)), (63, .int .i64 (i : Int))], h3, []) ∧
    Pl g h3 p' r P' R' (i + 1) ∧ h3[c]? = some cell

theorem Pl.app {g h : AHeap} {p r : Nat} {P : Po} {R : Re} {i : Nat} (a : Pl g h p r P R i) (js : AHeap) (hj : js.all notOld = true) : Pl g (h ++ js) p r P R i := by
  have hl := (List.getElem?_eq_some_iff.1 a.hp).1
  refine ⟨good_app a.good hj, by rw [List.getElem?_append_left hl]; exact a.hp, a.hr.app js, a.na, a.ne, a.gp, a.gr, a.ga, fun j x hx hs => ?_, by have := a.gl; simp; omega, a.ok, a.rel, a.rq⟩
  have h1 := a.gh j x hx hs
  rw [List.getElem?_append_left (List.getElem?_eq_some_iff.1 h1).1]; exact h1

/-- Both are turned: the program's in its own block, the document's as its contract says. -/
theorem Pl.both {g h h3 : AHeap} {p r : Nat} {P P' : Po} {R R' : Re} {i : Nat} (a : Pl g h p r P R i) (l : Left R r (h.set p P'.blk) R' h3) (ok : P'.ok) (rel : Rel P' R') (hq : P'.req ≤ (i + 1 : Nat)) : Pl g h3 p r P' R' (i + 1) := by
  have hl := (List.getElem?_eq_some_iff.1 a.hp).1
  have hgp := a.gp
  have hgl := a.gl
  refine ⟨l.good, ?_, l.at_, ?_, a.ne, a.gp, a.gr, ?_, ?_, ?_, ok, rel, hq⟩
  · exact l.keep p _ a.ne a.na (by rw [List.getElem?_set_self hl]) (by simp [Po.blk])
  · intro hn
    rcases l.newer p hn with h1 | h1
    · exact a.na h1
    · simp at h1; omega
  · intro b hb
    rcases l.newer b hb with h1 | h1
    · exact a.ga b h1
    · simp at h1; omega
  · intro j x hx hs
    have hj := (List.getElem?_eq_some_iff.1 hx).1
    have hgr := a.gr
    refine l.keep j x (by omega) (fun hn => by have := a.ga j hn; omega) ?_ (by rw [hs]; simp)
    rw [List.getElem?_set_ne (by omega)]; exact a.gh j x hx hs
  · have := l.len; simp at this; omega

theorem Pl.same {g h : AHeap} {p r : Nat} {P : Po} {R : Re} {i : Nat} (a : Pl g h p r P R i) : Pl g h p r P R (i + 1) :=
  ⟨a.good, a.hp, a.hr, a.na, a.ne, a.gp, a.gr, a.ga, a.gh, a.gl, a.ok, a.rel, by have := a.rq; push_cast; omega⟩

theorem RefAt.ansLt {h : AHeap} {r : Nat} {R : Re} (a : RefAt h r R) {b : Nat} (hb : isAns R b) : b < h.length := by
  obtain ⟨o', n', e', mn', he⟩ := hb
  rcases a.ans with ⟨e1, _⟩ | ⟨b', o, mn, e1, _, e3, _⟩
  · rw [e1] at he; cases he
  · rw [e1, AV.gsl.injEq] at he; rw [← he.1]; exact e3

theorem Pl.ref {g h h3 : AHeap} {p r : Nat} {P : Po} {R R' : Re} {i : Nat} (a : Pl g h p r P R i) (l : Left R r h R' h3) (rel : Rel P R') : Pl g h3 p r P R' (i + 1) := by
  have e : h.set p P.blk = h := by
    have := a.hp
    obtain ⟨h1, h2⟩ := List.getElem?_eq_some_iff.1 this
    rw [← h2]; exact List.set_getElem_self h1
  exact a.both (by rw [e]; exact l) a.ok rel (by have := a.rq; push_cast; omega)

theorem Pl.copy {g h : AHeap} {p r : Nat} {P : Po} {R : Re} {i : Nat} (a : Pl g h p r P R i) (x cell : ABlk) (hx : notOld x = true) (hc : notOld cell = true) : Pl g (h.set p x ++ [cell, P.blk]) (h.length + 1) r P R (i + 1) := by
  have hl := (List.getElem?_eq_some_iff.1 a.hp).1
  have hrl := a.hr.lt
  have hgl := a.gl
  have hgp := a.gp
  refine ⟨good_app (good_set a.good hx) (by simp [hc, notOld_Po]), by rw [List.getElem?_append_right (by simp)]; simp, (a.hr.set a.ne a.na x).app _, fun hn => by have := a.hr.ansLt hn; omega, by omega, by omega, a.gr, a.ga, fun j y hy hs => ?_, by simp; omega, a.ok, a.rel, by have := a.rq; push_cast; omega⟩
  have h1 := a.gh j y hy hs
  have hj := (List.getElem?_eq_some_iff.1 hy).1
  rw [List.getElem?_append_left (by simp; omega), List.getElem?_set_ne (by omega)]; exact h1

set_option maxHeartbeats 8000000 in
theorem plays_at (g : AHeap) (hg : Good g) (x0 x1 x2 : Int) (sv : AV) (n : Nat) (hn : n ≤ 9223372036854775807) (hs : ActsAt g sv n) :
    Wp (xbody (W C) M6 [.agg [.int .i64 x0, .int .i64 x1, .int .i64 x2], sv] g) fun r => r.1 = .bool true := by
  have hsl := hs.len
  have hna := na_slen hsl
  by_cases hgood : 4 ≤ x0 ∧ x0 ≤ x1 ∧ x1 ≤ 10 ∧ 0 ≤ x2 ∧ x2 ≤ 4611686018427387904
  · obtain ⟨b1, b2, b3, b4, b5⟩ := hgood
    simp (maxDischargeDepth := 9) -implicitDefEqProofs only [push_cast, reduceIte, Nat.reduceEqDiff, Nat.reduceAdd, Nat.reduceSub, Nat.reduceMul, Nat.reduceDiv, Nat.reduceMod, Nat.reduceLT, Nat.reduceLeDiff, Nat.reduceBEq, Nat.reduceBNe, reduceCtorEq, Int.reduceEq, Int.reduceNe, Int.reduceLT, Int.reduceLE, Int.reduceToNat, Int.reduceNeg, Int.reduceAdd, Int.reduceSub, Int.reduceMul, Int.reducePow, Nat.reducePow, Int.reduceBEq, M6, c15, c26, b1, b2, b3, b4, b5, c16, hsl, hna]
    refine wp_kRes (wp_kSeq (wp_kBlock ?_))
    refine wp_loop (fun k a h ws => ∃ (i p r : Nat) (P : Po) (R : Re), k = n - i ∧ i ≤ n ∧ i ≤ 80 ∧ a = [(5, .ptr p 0), (7, .ptr r 0), (61, sv), (62, .int .i64 (n : Int)), (63, .int .i64 (i : Int))] ∧ ws = [] ∧ Pl g h p r P R i) n ?_ ?_
    · refine ⟨0, g.length + 1, g.length + 2, Po.new x0 x1 x2, ⟨x0, x1, x0, [], .nils, 0, 0, x2, false, false⟩, by omega, by omega, by omega, ?_, rfl, ?_⟩
      · simp (maxDischargeDepth := 9) -implicitDefEqProofs only [push_cast, reduceIte, Nat.reduceEqDiff, Nat.reduceAdd, Nat.reduceSub, Nat.reduceMul, Nat.reduceDiv, Nat.reduceMod, Nat.reduceLT, Nat.reduceLeDiff, Nat.reduceBEq, Nat.reduceBNe, reduceCtorEq, Int.reduceEq, Int.reduceNe, Int.reduceLT, Int.reduceLE, Int.reduceToNat, Int.reduceNeg, Int.reduceAdd, Int.reduceSub, Int.reduceMul, Int.reducePow, Nat.reducePow, Int.reduceBEq, hna]
      · refine ⟨good_app hg rfl, by simp (maxDischargeDepth := 9) -implicitDefEqProofs only [push_cast, reduceIte, Nat.reduceEqDiff, Nat.reduceAdd, Nat.reduceSub, Nat.reduceMul, Nat.reduceDiv, Nat.reduceMod, Nat.reduceLT, Nat.reduceLeDiff, Nat.reduceBEq, Nat.reduceBNe, reduceCtorEq, Int.reduceEq, Int.reduceNe, Int.reduceLT, Int.reduceLE, Int.reduceToNat, Int.reduceNeg, Int.reduceAdd, Int.reduceSub, Int.reduceMul, Int.reducePow, Nat.reducePow, Int.reduceBEq], ⟨by simp (maxDischargeDepth := 9) -implicitDefEqProofs only [push_cast, reduceIte, Nat.reduceEqDiff, Nat.reduceAdd, Nat.reduceSub, Nat.reduceMul, Nat.reduceDiv, Nat.reduceMod, Nat.reduceLT, Nat.reduceLeDiff, Nat.reduceBEq, Nat.reduceBNe, reduceCtorEq, Int.reduceEq, Int.reduceNe, Int.reduceLT, Int.reduceLE, Int.reduceToNat, Int.reduceNeg, Int.reduceAdd, Int.reduceSub, Int.reduceMul, Int.reducePow, Nat.reducePow, Int.reduceBEq], by simp, Or.inl ⟨rfl, rfl⟩, ?_⟩, ?_, by omega, by omega, by omega, ?_, ?_, by simp, ?_, ?_, ?_⟩
        · rintro ⟨_, _, _, _, h⟩; cases h
        · rintro ⟨_, _, _, _, h⟩; cases h
        · rintro b ⟨_, _, _, _, h⟩; cases h
        · intro j x hx _; rw [List.getElem?_append_left (List.getElem?_eq_some_iff.1 hx).1]; exact hx
        · constructor <;> simp [Po.new] <;> omega
        · exact ⟨rfl, rfl, rfl, rfl, rfl, rfl, rfl, rfl, rfl⟩
        · simp [Po.new]
    · rintro k aa h ws ⟨i, p, r, P, R, rfl, hi, hi', rfl, rfl, pl⟩
      by_cases hlt : i < n
      · have hlt' : (i : Int) < (n : Int) := by omega
        obtain ⟨q, o, c, zs, rfl, hnc, hql, hq, hz⟩ : ∃ q o c zs, sv = .sl q o n c ∧ n ≤ c ∧ q < g.length ∧ g[q]? = some ⟨.ext, .ints .i64 zs⟩ ∧ o + 3 * n ≤ zs.length := by
          rcases hs with ⟨_, h0⟩ | h0
          · omega
          · exact h0
        have bnd : ∀ i, i < zs.length → ∃ z, zs[i]? = some z := fun i hi => ⟨_, List.getElem?_eq_getElem hi⟩
        obtain ⟨z0, e0⟩ := bnd (o + i * 3) (by omega)
        obtain ⟨z1, e1⟩ := bnd (o + (i * 3 + 1)) (by omega)
        obtain ⟨z2, e2⟩ := bnd (o + (i * 3 + 2)) (by omega)
        have hqh := pl.gh q _ hq rfl
        have hqhl := (List.getElem?_eq_some_iff.1 hqh).1
        by_cases h80 : i = 80
        · subst h80
          have hlt2 : (80 : Int) < (n : Int) := by omega
          simp (maxDischargeDepth := 9) -implicitDefEqProofs only [push_cast, reduceIte, Nat.reduceEqDiff, Nat.reduceAdd, Nat.reduceSub, Nat.reduceMul, Nat.reduceDiv, Nat.reduceMod, Nat.reduceLT, Nat.reduceLeDiff, Nat.reduceBEq, Nat.reduceBNe, reduceCtorEq, Int.reduceEq, Int.reduceNe, Int.reduceLT, Int.reduceLE, Int.reduceToNat, Int.reduceNeg, Int.reduceAdd, Int.reduceSub, Int.reduceMul, Int.reducePow, Nat.reducePow, Int.reduceBEq, hlt, hlt2, hqh, hqhl, e0, e1, e2]
        · have h80' : ¬ (i : Int) = 80 := by omega
          have v1 : IntKind.i64.wrap ((i : Int) + 1) = (i : Int) + 1 := wr_i64 _ (by omega) (by omega)
          simp (maxDischargeDepth := 9) -implicitDefEqProofs only [push_cast, reduceIte, Nat.reduceEqDiff, Nat.reduceAdd, Nat.reduceSub, Nat.reduceMul, Nat.reduceDiv, Nat.reduceMod, Nat.reduceLT, Nat.reduceLeDiff, Nat.reduceBEq, Nat.reduceBNe, reduceCtorEq, Int.reduceEq, Int.reduceNe, Int.reduceLT, Int.reduceLE, Int.reduceToNat, Int.reduceNeg, Int.reduceAdd, Int.reduceSub, Int.reduceMul, Int.reducePow, Nat.reducePow, Int.reduceBEq, hlt, hlt', hqh, hqhl, e0, e1, e2, h80']
          refine wp_kSeq (wp_kBlock (wp_kSeq (Wp.mono (Q := After g r h.length (.sl q o n c) n i ⟨.tip false, .ints .i64 [z0, z1, z2]⟩) ?_ ?_)))
          · have ok := pl.ok
            have m0 := pl.ok.m
            have rel := pl.rel
            have hg0 := pl.good
            have hp := pl.hp
            have hlp := (List.getElem?_eq_some_iff.1 pl.hp).1
            have hrb := pl.hr.blk
            have hrl := pl.hr.lt
            have hpr : ¬ p = r := pl.ne
            have hrp : ¬ r = p := fun e => pl.ne e.symm
            have hpc : ¬ p = h.length := by omega
            have hcp : ¬ h.length = p := by omega
            have hrc : ¬ r = h.length := by omega
            have hcr : ¬ h.length = r := by omega
            have hcl : ¬ h.length ≤ r := by omega
            have hf := ok.f
            have hs0 := ok.s
            have hq0 := ok.q
            have hrq := pl.rq
            have hgr := pl.gr
            have hgp := pl.gp
            have hgl := pl.gl
            have hpg : ¬ p < g.length := by omega
            have hrg : ¬ r < g.length := by omega
            have hhg : ¬ h.length < g.length := by omega
            by_cases w0 : z0 = 0
            · subst w0
              have pl1 := pl.app [⟨BSt.tip false, ACells.ints .i64 [0, z1, z2]⟩] rfl
              by_cases hv : P.stopped = false ∧ 0 ≤ z2 ∧ z2 ≤ 4611686018427387904
              · have ok1 := sent_ok ok hv.2.1 hv.2.2 (by omega)
                have hst := hv.1
                have ht0 := hv.2.1
                have ht1 := hv.2.2
                have hrs : R.stopped = false := by rw [rel.sp, hst]
                obtain ⟨h3, ws3, sl3, e27, left, hws⟩ := c27 (h := h.set p (P.sent z2).blk ++ [⟨BSt.tip false, ACells.ints .i64 [0, z1, z2]⟩]) (good_app (good_set hg0 rfl) rfl) ((pl.hr.set pl.ne pl.na _).app [⟨BSt.tip false, ACells.ints .i64 [0, z1, z2]⟩]) ht0 ht1 hrs (by rw [rel.ex]; omega) (by rw [rel.le]; omega) (by have := rel.rq; omega)
                have hw : wadd g.length [] ws3 = [] := wadd_ge fun b hb => by
                  rcases hws b hb with h1 | h1
                  · omega
                  · exact pl.ga b h1
                simp (maxDischargeDepth := 9) -implicitDefEqProofs only [push_cast, reduceIte, Nat.reduceEqDiff, Nat.reduceAdd, Nat.reduceSub, Nat.reduceMul, Nat.reduceDiv, Nat.reduceMod, Nat.reduceLT, Nat.reduceLeDiff, Nat.reduceBEq, Nat.reduceBNe, reduceCtorEq, Int.reduceEq, Int.reduceNe, Int.reduceLT, Int.reduceLE, Int.reduceToNat, Int.reduceNeg, Int.reduceAdd, Int.reduceSub, Int.reduceMul, Int.reducePow, Nat.reducePow, Int.reduceBEq, hg0, hp, hlp, hrb, hrl, hpr, hrp, hpc, hcp, hrc, hcr, hcl, hpg, hrg, hhg, isPo_blk, rdPo_blk, notOld_Po, notOld_Re, c21, e27, hw, ok, hst, ht0, ht1, Re.blk, Re.cells]
                refine ⟨p, P.sent z2, R.sent z2 sl3, h3, ?_, pl1.both (by rw [List.set_append_left _ _ hlp]; exact left) ok1 (rel.sent _ _) (by rw [sent_req]; push_cast; omega), ?_⟩
                · first | rfl | (simp (maxDischargeDepth := 9) -implicitDefEqProofs only [push_cast, reduceIte, Nat.reduceEqDiff, Nat.reduceAdd, Nat.reduceSub, Nat.reduceMul, Nat.reduceDiv, Nat.reduceMod, Nat.reduceLT, Nat.reduceLeDiff, Nat.reduceBEq, Nat.reduceBNe, reduceCtorEq, Int.reduceEq, Int.reduceNe, Int.reduceLT, Int.reduceLE, Int.reduceToNat, Int.reduceNeg, Int.reduceAdd, Int.reduceSub, Int.reduceMul, Int.reducePow, Nat.reducePow, Int.reduceBEq])
                · exact left.keep h.length _ (by omega) (fun hn => by have := pl.hr.ansLt hn; omega) (by rw [List.getElem?_append_right (by simp)]; simp) (by simp)
              · have e27 : W C 27 [.ptr r 0, .int .i64 z2] (h ++ [⟨BSt.tip false, ACells.ints .i64 [0, z1, z2]⟩]) = some (.int .i64 (if z2 < 0 ∨ 4611686018427387904 < z2 then 1 else 35), h ++ [⟨BSt.tip false, ACells.ints .i64 [0, z1, z2]⟩], []) := by
                  by_cases hb : z2 < 0 ∨ 4611686018427387904 < z2
                  · rw [if_pos hb]; exact c27_bad pl1.good pl1.hr hb
                  · rw [if_neg hb]
                    refine c27_stop pl1.good pl1.hr (by omega) (by omega) ?_
                    rw [rel.sp]
                    cases hh : P.stopped with
                    | true => rfl
                    | false => exact absurd ⟨hh, by omega, by omega⟩ hv
                simp (maxDischargeDepth := 9) -implicitDefEqProofs only [push_cast, reduceIte, Nat.reduceEqDiff, Nat.reduceAdd, Nat.reduceSub, Nat.reduceMul, Nat.reduceDiv, Nat.reduceMod, Nat.reduceLT, Nat.reduceLeDiff, Nat.reduceBEq, Nat.reduceBNe, reduceCtorEq, Int.reduceEq, Int.reduceNe, Int.reduceLT, Int.reduceLE, Int.reduceToNat, Int.reduceNeg, Int.reduceAdd, Int.reduceSub, Int.reduceMul, Int.reducePow, Nat.reducePow, Int.reduceBEq, hg0, hp, hlp, hrb, hrl, hpr, hrp, hpc, hcp, hrc, hcr, hcl, hpg, hrg, hhg, isPo_blk, rdPo_blk, notOld_Po, notOld_Re, c21_no, e27, m0, hv, Re.blk, Re.cells]
                refine ⟨p, P, R, h ++ [⟨BSt.tip false, ACells.ints .i64 [0, z1, z2]⟩], ?_, pl1.same, by simp⟩
                first | rfl | (simp (maxDischargeDepth := 9) -implicitDefEqProofs only [push_cast, reduceIte, Nat.reduceEqDiff, Nat.reduceAdd, Nat.reduceSub, Nat.reduceMul, Nat.reduceDiv, Nat.reduceMod, Nat.reduceLT, Nat.reduceLeDiff, Nat.reduceBEq, Nat.reduceBNe, reduceCtorEq, Int.reduceEq, Int.reduceNe, Int.reduceLT, Int.reduceLE, Int.reduceToNat, Int.reduceNeg, Int.reduceAdd, Int.reduceSub, Int.reduceMul, Int.reducePow, Nat.reducePow, Int.reduceBEq])
            · by_cases w1 : z0 = 1
              · subst w1
                have pl1 := pl.app [⟨BSt.tip false, ACells.ints .i64 [1, z1, z2]⟩] rfl
                cases hst : P.stopped
                · have hrs : R.stopped = false := by rw [rel.sp, hst]
                  have ok1 := got_ok ok true
                  obtain ⟨h3, ws3, e28, left, hws⟩ := c28 (h := h.set p (P.got true).blk ++ [⟨BSt.tip false, ACells.ints .i64 [1, z1, z2]⟩]) (good_app (good_set hg0 rfl) rfl) ((pl.hr.set pl.ne pl.na _).app [⟨BSt.tip false, ACells.ints .i64 [1, z1, z2]⟩]) (g := true) hrs (by rw [rel.ex]; omega) (by rw [rel.sd]; omega) (by have := rel.rq; omega)
                  have hw : wadd g.length [] ws3 = [] := wadd_ge fun b hb => by
                    rcases hws b hb with h1 | h1
                    · omega
                    · exact pl.ga b h1
                  simp (maxDischargeDepth := 9) -implicitDefEqProofs only [push_cast, reduceIte, Nat.reduceEqDiff, Nat.reduceAdd, Nat.reduceSub, Nat.reduceMul, Nat.reduceDiv, Nat.reduceMod, Nat.reduceLT, Nat.reduceLeDiff, Nat.reduceBEq, Nat.reduceBNe, reduceCtorEq, Int.reduceEq, Int.reduceNe, Int.reduceLT, Int.reduceLE, Int.reduceToNat, Int.reduceNeg, Int.reduceAdd, Int.reduceSub, Int.reduceMul, Int.reducePow, Nat.reducePow, Int.reduceBEq, hg0, hp, hlp, hrb, hrl, hpr, hrp, hpc, hcp, hrc, hcr, hcl, hpg, hrg, hhg, isPo_blk, rdPo_blk, notOld_Po, notOld_Re, c18, e28, hw, ok, hst, Re.blk, Re.cells]
                  refine ⟨p, P.got true, R.got true, h3, ?_, pl1.both (by rw [List.set_append_left _ _ hlp]; exact left) ok1 (rel.got ok _) (by rw [got_req]; push_cast; omega), ?_⟩
                  · first | rfl | (simp (maxDischargeDepth := 9) -implicitDefEqProofs only [push_cast, reduceIte, Nat.reduceEqDiff, Nat.reduceAdd, Nat.reduceSub, Nat.reduceMul, Nat.reduceDiv, Nat.reduceMod, Nat.reduceLT, Nat.reduceLeDiff, Nat.reduceBEq, Nat.reduceBNe, reduceCtorEq, Int.reduceEq, Int.reduceNe, Int.reduceLT, Int.reduceLE, Int.reduceToNat, Int.reduceNeg, Int.reduceAdd, Int.reduceSub, Int.reduceMul, Int.reducePow, Nat.reducePow, Int.reduceBEq])
                  · exact left.keep h.length _ (by omega) (fun hn => by have := pl.hr.ansLt hn; omega) (by rw [List.getElem?_append_right (by simp)]; simp) (by simp)
                · have e28 := c28_stop (g := true) pl1.good pl1.hr (by rw [rel.sp, hst])
                  simp (maxDischargeDepth := 9) -implicitDefEqProofs only [push_cast, reduceIte, Nat.reduceEqDiff, Nat.reduceAdd, Nat.reduceSub, Nat.reduceMul, Nat.reduceDiv, Nat.reduceMod, Nat.reduceLT, Nat.reduceLeDiff, Nat.reduceBEq, Nat.reduceBNe, reduceCtorEq, Int.reduceEq, Int.reduceNe, Int.reduceLT, Int.reduceLE, Int.reduceToNat, Int.reduceNeg, Int.reduceAdd, Int.reduceSub, Int.reduceMul, Int.reducePow, Nat.reducePow, Int.reduceBEq, hg0, hp, hlp, hrb, hrl, hpr, hrp, hpc, hcp, hrc, hcr, hcl, hpg, hrg, hhg, isPo_blk, rdPo_blk, notOld_Po, notOld_Re, c18_no, e28, m0, hst, Re.blk, Re.cells]
                  refine ⟨p, P, R, h ++ [⟨BSt.tip false, ACells.ints .i64 [1, z1, z2]⟩], ?_, pl1.same, by simp⟩
                  first | rfl | (simp (maxDischargeDepth := 9) -implicitDefEqProofs only [push_cast, reduceIte, Nat.reduceEqDiff, Nat.reduceAdd, Nat.reduceSub, Nat.reduceMul, Nat.reduceDiv, Nat.reduceMod, Nat.reduceLT, Nat.reduceLeDiff, Nat.reduceBEq, Nat.reduceBNe, reduceCtorEq, Int.reduceEq, Int.reduceNe, Int.reduceLT, Int.reduceLE, Int.reduceToNat, Int.reduceNeg, Int.reduceAdd, Int.reduceSub, Int.reduceMul, Int.reducePow, Nat.reducePow, Int.reduceBEq])
              · by_cases w2 : z0 = 2
                · subst w2
                  have pl1 := pl.app [⟨BSt.tip false, ACells.ints .i64 [2, z1, z2]⟩] rfl
                  cases hst : P.stopped
                  · have hrs : R.stopped = false := by rw [rel.sp, hst]
                    have ok1 := got_ok ok false
                    obtain ⟨h3, ws3, e28, left, hws⟩ := c28 (h := h.set p (P.got false).blk ++ [⟨BSt.tip false, ACells.ints .i64 [2, z1, z2]⟩]) (good_app (good_set hg0 rfl) rfl) ((pl.hr.set pl.ne pl.na _).app [⟨BSt.tip false, ACells.ints .i64 [2, z1, z2]⟩]) (g := false) hrs (by rw [rel.ex]; omega) (by rw [rel.sd]; omega) (by have := rel.rq; omega)
                    have hw : wadd g.length [] ws3 = [] := wadd_ge fun b hb => by
                      rcases hws b hb with h1 | h1
                      · omega
                      · exact pl.ga b h1
                    simp (maxDischargeDepth := 9) -implicitDefEqProofs only [push_cast, reduceIte, Nat.reduceEqDiff, Nat.reduceAdd, Nat.reduceSub, Nat.reduceMul, Nat.reduceDiv, Nat.reduceMod, Nat.reduceLT, Nat.reduceLeDiff, Nat.reduceBEq, Nat.reduceBNe, reduceCtorEq, Int.reduceEq, Int.reduceNe, Int.reduceLT, Int.reduceLE, Int.reduceToNat, Int.reduceNeg, Int.reduceAdd, Int.reduceSub, Int.reduceMul, Int.reducePow, Nat.reducePow, Int.reduceBEq, hg0, hp, hlp, hrb, hrl, hpr, hrp, hpc, hcp, hrc, hcr, hcl, hpg, hrg, hhg, isPo_blk, rdPo_blk, notOld_Po, notOld_Re, c18, e28, hw, ok, hst, Re.blk, Re.cells]
                    refine ⟨p, P.got false, R.got false, h3, ?_, pl1.both (by rw [List.set_append_left _ _ hlp]; exact left) ok1 (rel.got ok _) (by rw [got_req]; push_cast; omega), ?_⟩
                    · first | rfl | (simp (maxDischargeDepth := 9) -implicitDefEqProofs only [push_cast, reduceIte, Nat.reduceEqDiff, Nat.reduceAdd, Nat.reduceSub, Nat.reduceMul, Nat.reduceDiv, Nat.reduceMod, Nat.reduceLT, Nat.reduceLeDiff, Nat.reduceBEq, Nat.reduceBNe, reduceCtorEq, Int.reduceEq, Int.reduceNe, Int.reduceLT, Int.reduceLE, Int.reduceToNat, Int.reduceNeg, Int.reduceAdd, Int.reduceSub, Int.reduceMul, Int.reducePow, Nat.reducePow, Int.reduceBEq])
                    · exact left.keep h.length _ (by omega) (fun hn => by have := pl.hr.ansLt hn; omega) (by rw [List.getElem?_append_right (by simp)]; simp) (by simp)
                  · have e28 := c28_stop (g := false) pl1.good pl1.hr (by rw [rel.sp, hst])
                    simp (maxDischargeDepth := 9) -implicitDefEqProofs only [push_cast, reduceIte, Nat.reduceEqDiff, Nat.reduceAdd, Nat.reduceSub, Nat.reduceMul, Nat.reduceDiv, Nat.reduceMod, Nat.reduceLT, Nat.reduceLeDiff, Nat.reduceBEq, Nat.reduceBNe, reduceCtorEq, Int.reduceEq, Int.reduceNe, Int.reduceLT, Int.reduceLE, Int.reduceToNat, Int.reduceNeg, Int.reduceAdd, Int.reduceSub, Int.reduceMul, Int.reducePow, Nat.reducePow, Int.reduceBEq, hg0, hp, hlp, hrb, hrl, hpr, hrp, hpc, hcp, hrc, hcr, hcl, hpg, hrg, hhg, isPo_blk, rdPo_blk, notOld_Po, notOld_Re, c18_no, e28, m0, hst, Re.blk, Re.cells]
                    refine ⟨p, P, R, h ++ [⟨BSt.tip false, ACells.ints .i64 [2, z1, z2]⟩], ?_, pl1.same, by simp⟩
                    first | rfl | (simp (maxDischargeDepth := 9) -implicitDefEqProofs only [push_cast, reduceIte, Nat.reduceEqDiff, Nat.reduceAdd, Nat.reduceSub, Nat.reduceMul, Nat.reduceDiv, Nat.reduceMod, Nat.reduceLT, Nat.reduceLeDiff, Nat.reduceBEq, Nat.reduceBNe, reduceCtorEq, Int.reduceEq, Int.reduceNe, Int.reduceLT, Int.reduceLE, Int.reduceToNat, Int.reduceNeg, Int.reduceAdd, Int.reduceSub, Int.reduceMul, Int.reducePow, Nat.reducePow, Int.reduceBEq])
                · by_cases w3 : z0 = 3
                  · subst w3
                    have pl1 := pl.app [⟨BSt.tip false, ACells.ints .i64 [3, z1, z2]⟩] rfl
                    by_cases hv : P.stopped = false ∧ 4 ≤ z1 ∧ z1 ≤ 10
                    · have ok1 := rate_ok ok hv.2.1 hv.2.2
                      have hst := hv.1
                      have ht0 := hv.2.1
                      have ht1 := hv.2.2
                      have hrs : R.stopped = false := by rw [rel.sp, hst]
                      have hra := (pl.hr.set pl.ne pl.na (P.rate z1).blk).app [⟨BSt.tip false, ACells.ints .i64 [3, z1, z2]⟩]
                      have e29 := c29 (h := h.set p (P.rate z1).blk ++ [⟨BSt.tip false, ACells.ints .i64 [3, z1, z2]⟩]) (good_app (good_set hg0 rfl) rfl) hra (n := z1) (by omega) (by omega) hrs (by rw [rel.ex]; omega) (by rw [rel.la]; exact ok.l)
                      have left := Left.own (R' := R.rate z1) hra (good_app (good_set hg0 rfl) rfl) rfl rfl
                      simp (maxDischargeDepth := 9) -implicitDefEqProofs only [push_cast, reduceIte, Nat.reduceEqDiff, Nat.reduceAdd, Nat.reduceSub, Nat.reduceMul, Nat.reduceDiv, Nat.reduceMod, Nat.reduceLT, Nat.reduceLeDiff, Nat.reduceBEq, Nat.reduceBNe, reduceCtorEq, Int.reduceEq, Int.reduceNe, Int.reduceLT, Int.reduceLE, Int.reduceToNat, Int.reduceNeg, Int.reduceAdd, Int.reduceSub, Int.reduceMul, Int.reducePow, Nat.reducePow, Int.reduceBEq, hg0, hp, hlp, hrb, hrl, hpr, hrp, hpc, hcp, hrc, hcr, hcl, hpg, hrg, hhg, isPo_blk, rdPo_blk, notOld_Po, notOld_Re, c24, e29, ok, hst, ht0, ht1, Re.blk, Re.cells]
                      refine ⟨p, P.rate z1, R.rate z1, _, ?_, pl1.both (by rw [List.set_append_left _ _ hlp]; exact left) ok1 (rel.rate _) (by show P.req ≤ _; push_cast; omega), ?_⟩
                      · simp (maxDischargeDepth := 9) -implicitDefEqProofs only [push_cast, reduceIte, Nat.reduceEqDiff, Nat.reduceAdd, Nat.reduceSub, Nat.reduceMul, Nat.reduceDiv, Nat.reduceMod, Nat.reduceLT, Nat.reduceLeDiff, Nat.reduceBEq, Nat.reduceBNe, reduceCtorEq, Int.reduceEq, Int.reduceNe, Int.reduceLT, Int.reduceLE, Int.reduceToNat, Int.reduceNeg, Int.reduceAdd, Int.reduceSub, Int.reduceMul, Int.reducePow, Nat.reducePow, Int.reduceBEq, hg0, hp, hlp, hrb, hrl, hpr, hrp, hpc, hcp, hrc, hcr, hcl, hpg, hrg, hhg, isPo_blk, rdPo_blk, notOld_Po, notOld_Re, Re.blk, Re.cells]
                      · exact left.keep h.length _ (by omega) (fun hn => by have := pl.hr.ansLt hn; omega) (by rw [List.getElem?_append_right (by simp)]; simp) (by simp)
                    · have e29 : W C 29 [.ptr r 0, .int .i64 z1] (h ++ [⟨BSt.tip false, ACells.ints .i64 [3, z1, z2]⟩]) = some (.int .i64 (if z1 < 4 ∨ 10 < z1 then 1 else 35), h ++ [⟨BSt.tip false, ACells.ints .i64 [3, z1, z2]⟩], []) := by
                        by_cases hb : z1 < 4 ∨ 10 < z1
                        · rw [if_pos hb]; exact c29_bad pl1.good pl1.hr hb
                        · rw [if_neg hb]
                          refine c29_stop pl1.good pl1.hr (by omega) (by omega) ?_
                          rw [rel.sp]
                          cases hh : P.stopped with
                          | true => rfl
                          | false => exact absurd ⟨hh, by omega, by omega⟩ hv
                      simp (maxDischargeDepth := 9) -implicitDefEqProofs only [push_cast, reduceIte, Nat.reduceEqDiff, Nat.reduceAdd, Nat.reduceSub, Nat.reduceMul, Nat.reduceDiv, Nat.reduceMod, Nat.reduceLT, Nat.reduceLeDiff, Nat.reduceBEq, Nat.reduceBNe, reduceCtorEq, Int.reduceEq, Int.reduceNe, Int.reduceLT, Int.reduceLE, Int.reduceToNat, Int.reduceNeg, Int.reduceAdd, Int.reduceSub, Int.reduceMul, Int.reducePow, Nat.reducePow, Int.reduceBEq, hg0, hp, hlp, hrb, hrl, hpr, hrp, hpc, hcp, hrc, hcr, hcl, hpg, hrg, hhg, isPo_blk, rdPo_blk, notOld_Po, notOld_Re, c24_no, e29, m0, hv, Re.blk, Re.cells]
                      refine ⟨p, P, R, h ++ [⟨BSt.tip false, ACells.ints .i64 [3, z1, z2]⟩], ?_, pl1.same, by simp⟩
                      first | rfl | (simp (maxDischargeDepth := 9) -implicitDefEqProofs only [push_cast, reduceIte, Nat.reduceEqDiff, Nat.reduceAdd, Nat.reduceSub, Nat.reduceMul, Nat.reduceDiv, Nat.reduceMod, Nat.reduceLT, Nat.reduceLeDiff, Nat.reduceBEq, Nat.reduceBNe, reduceCtorEq, Int.reduceEq, Int.reduceNe, Int.reduceLT, Int.reduceLE, Int.reduceToNat, Int.reduceNeg, Int.reduceAdd, Int.reduceSub, Int.reduceMul, Int.reducePow, Nat.reducePow, Int.reduceBEq])
                  · by_cases w4 : z0 = 4
                    · subst w4
                      have pl1 := pl.app [⟨BSt.tip false, ACells.ints .i64 [4, z1, z2]⟩] rfl
                      cases hst : P.stopped
                      · have hrs : R.stopped = false := by rw [rel.sp, hst]
                        have hra := (pl.hr.set pl.ne pl.na P.stop.blk).app [⟨BSt.tip false, ACells.ints .i64 [4, z1, z2]⟩]
                        have left := Left.own (R' := { R with stopped := true }) hra (good_app (good_set hg0 rfl) rfl) rfl rfl
                        simp (maxDischargeDepth := 9) -implicitDefEqProofs only [push_cast, reduceIte, Nat.reduceEqDiff, Nat.reduceAdd, Nat.reduceSub, Nat.reduceMul, Nat.reduceDiv, Nat.reduceMod, Nat.reduceLT, Nat.reduceLeDiff, Nat.reduceBEq, Nat.reduceBNe, reduceCtorEq, Int.reduceEq, Int.reduceNe, Int.reduceLT, Int.reduceLE, Int.reduceToNat, Int.reduceNeg, Int.reduceAdd, Int.reduceSub, Int.reduceMul, Int.reducePow, Nat.reducePow, Int.reduceBEq, hg0, hp, hlp, hrb, hrl, hpr, hrp, hpc, hcp, hrc, hcr, hcl, hpg, hrg, hhg, isPo_blk, rdPo_blk, notOld_Po, notOld_Re, c30, m0, hst, hrs, Re.blk, Re.cells]
                        refine ⟨p, P.stop, { R with stopped := true }, _, ?_, pl1.both (by rw [List.set_append_left _ _ hlp]; exact left) (stop_ok ok) rel.stop (by show P.req ≤ _; push_cast; omega), ?_⟩
                        · simp (maxDischargeDepth := 9) -implicitDefEqProofs only [push_cast, reduceIte, Nat.reduceEqDiff, Nat.reduceAdd, Nat.reduceSub, Nat.reduceMul, Nat.reduceDiv, Nat.reduceMod, Nat.reduceLT, Nat.reduceLeDiff, Nat.reduceBEq, Nat.reduceBNe, reduceCtorEq, Int.reduceEq, Int.reduceNe, Int.reduceLT, Int.reduceLE, Int.reduceToNat, Int.reduceNeg, Int.reduceAdd, Int.reduceSub, Int.reduceMul, Int.reducePow, Nat.reducePow, Int.reduceBEq, hg0, hp, hlp, hrb, hrl, hpr, hrp, hpc, hcp, hrc, hcr, hcl, hpg, hrg, hhg, isPo_blk, rdPo_blk, notOld_Po, notOld_Re, Re.blk, Re.cells]
                        · exact left.keep h.length _ (by omega) (fun hn => by have := pl.hr.ansLt hn; omega) (by rw [List.getElem?_append_right (by simp)]; simp) (by simp)
                      · have hrs : R.stopped = true := by rw [rel.sp, hst]
                        have left := Left.own (R' := { R with stopped := true }) pl1.hr pl1.good rfl rfl
                        have rel2 : Rel P { R with stopped := true } := ⟨rel.ex, rel.le, rel.mo, rel.sd, rel.la, rel.nx, hst.symm, rel.rq, rel.rg⟩
                        simp (maxDischargeDepth := 9) -implicitDefEqProofs only [push_cast, reduceIte, Nat.reduceEqDiff, Nat.reduceAdd, Nat.reduceSub, Nat.reduceMul, Nat.reduceDiv, Nat.reduceMod, Nat.reduceLT, Nat.reduceLeDiff, Nat.reduceBEq, Nat.reduceBNe, reduceCtorEq, Int.reduceEq, Int.reduceNe, Int.reduceLT, Int.reduceLE, Int.reduceToNat, Int.reduceNeg, Int.reduceAdd, Int.reduceSub, Int.reduceMul, Int.reducePow, Nat.reducePow, Int.reduceBEq, hg0, hp, hlp, hrb, hrl, hpr, hrp, hpc, hcp, hrc, hcr, hcl, hpg, hrg, hhg, isPo_blk, rdPo_blk, notOld_Po, notOld_Re, c30_no, m0, hst, hrs, Re.blk, Re.cells]
                        refine ⟨p, P, { R with stopped := true }, _, ?_, pl1.ref left rel2, ?_⟩
                        · simp (maxDischargeDepth := 9) -implicitDefEqProofs only [push_cast, reduceIte, Nat.reduceEqDiff, Nat.reduceAdd, Nat.reduceSub, Nat.reduceMul, Nat.reduceDiv, Nat.reduceMod, Nat.reduceLT, Nat.reduceLeDiff, Nat.reduceBEq, Nat.reduceBNe, reduceCtorEq, Int.reduceEq, Int.reduceNe, Int.reduceLT, Int.reduceLE, Int.reduceToNat, Int.reduceNeg, Int.reduceAdd, Int.reduceSub, Int.reduceMul, Int.reducePow, Nat.reducePow, Int.reduceBEq, hg0, hp, hlp, hrb, hrl, hpr, hrp, hpc, hcp, hrc, hcr, hcl, hpg, hrg, hhg, isPo_blk, rdPo_blk, notOld_Po, notOld_Re, Re.blk, Re.cells]
                        · exact left.keep h.length _ (by omega) (fun hn => by have := pl.hr.ansLt hn; omega) (by rw [List.getElem?_append_right (by simp)]; simp) (by simp)
                    · by_cases w5 : z0 = 5
                      · subst w5
                        cases hst : P.stopped
                        · have ok1 := sent_ok ok (now := 5) (by omega) (by omega) (by omega)
                          have ok2 := got_ok ok1 false
                          have s1 : (P.sent 5).stopped = false := by rw [sent_stopped, hst]
                          have s2 : ((P.sent 5).got false).stopped = false := by rw [got_stopped, s1]
                          simp (maxDischargeDepth := 9) -implicitDefEqProofs only [push_cast, reduceIte, Nat.reduceEqDiff, Nat.reduceAdd, Nat.reduceSub, Nat.reduceMul, Nat.reduceDiv, Nat.reduceMod, Nat.reduceLT, Nat.reduceLeDiff, Nat.reduceBEq, Nat.reduceBNe, reduceCtorEq, Int.reduceEq, Int.reduceNe, Int.reduceLT, Int.reduceLE, Int.reduceToNat, Int.reduceNeg, Int.reduceAdd, Int.reduceSub, Int.reduceMul, Int.reducePow, Nat.reducePow, Int.reduceBEq, hg0, hp, hlp, hrb, hrl, hpr, hrp, hpc, hcp, hrc, hcr, hcl, hpg, hrg, hhg, isPo_blk, rdPo_blk, notOld_Po, notOld_Re, c31, c21, c18, c24, ok, ok1, ok2, hst, s1, s2, m0, Re.blk, Re.cells]
                          refine ⟨h.length + 1, P, R, _, ?_, pl.copy (((P.sent 5).got false).rate 10).blk ⟨BSt.tip false, ACells.ints .i64 [5, z1, z2]⟩ rfl rfl, ?_⟩
                          · first | rfl | (simp (maxDischargeDepth := 9) -implicitDefEqProofs only [push_cast, reduceIte, Nat.reduceEqDiff, Nat.reduceAdd, Nat.reduceSub, Nat.reduceMul, Nat.reduceDiv, Nat.reduceMod, Nat.reduceLT, Nat.reduceLeDiff, Nat.reduceBEq, Nat.reduceBNe, reduceCtorEq, Int.reduceEq, Int.reduceNe, Int.reduceLT, Int.reduceLE, Int.reduceToNat, Int.reduceNeg, Int.reduceAdd, Int.reduceSub, Int.reduceMul, Int.reducePow, Nat.reducePow, Int.reduceBEq])
                          · rw [List.getElem?_append_right (by simp)]; simp
                        · have hns : ¬ (true = false ∧ True) := by simp
                          simp (maxDischargeDepth := 9) -implicitDefEqProofs only [push_cast, reduceIte, Nat.reduceEqDiff, Nat.reduceAdd, Nat.reduceSub, Nat.reduceMul, Nat.reduceDiv, Nat.reduceMod, Nat.reduceLT, Nat.reduceLeDiff, Nat.reduceBEq, Nat.reduceBNe, reduceCtorEq, Int.reduceEq, Int.reduceNe, Int.reduceLT, Int.reduceLE, Int.reduceToNat, Int.reduceNeg, Int.reduceAdd, Int.reduceSub, Int.reduceMul, Int.reducePow, Nat.reducePow, Int.reduceBEq, hg0, hp, hlp, hrb, hrl, hpr, hrp, hpc, hcp, hrc, hcr, hcl, hpg, hrg, hhg, isPo_blk, rdPo_blk, notOld_Po, notOld_Re, c31, c21_no, c18_no, c24_no, hst, m0, Re.blk, Re.cells]
                          have e : h.set p P.blk = h := by
                            obtain ⟨q1, q2⟩ := List.getElem?_eq_some_iff.1 pl.hp
                            rw [← q2]; exact List.set_getElem_self q1
                          have := pl.copy P.blk ⟨BSt.tip false, ACells.ints .i64 [5, z1, z2]⟩ rfl rfl
                          rw [e] at this
                          refine ⟨h.length + 1, P, R, _, ?_, this, ?_⟩
                          · first | rfl | (simp (maxDischargeDepth := 9) -implicitDefEqProofs only [push_cast, reduceIte, Nat.reduceEqDiff, Nat.reduceAdd, Nat.reduceSub, Nat.reduceMul, Nat.reduceDiv, Nat.reduceMod, Nat.reduceLT, Nat.reduceLeDiff, Nat.reduceBEq, Nat.reduceBNe, reduceCtorEq, Int.reduceEq, Int.reduceNe, Int.reduceLT, Int.reduceLE, Int.reduceToNat, Int.reduceNeg, Int.reduceAdd, Int.reduceSub, Int.reduceMul, Int.reducePow, Nat.reducePow, Int.reduceBEq])
                          · rw [List.getElem?_append_right (by simp)]; simp
                      · by_cases w6 : z0 = 6
                        · subst w6
                          have pl1 := pl.app [⟨BSt.tip false, ACells.ints .i64 [6, z1, z2]⟩] rfl
                          by_cases hv : P.stopped = false ∧ 0 ≤ R.next ∧ R.next ≤ 4611686018427387904
                          · have ok1 := sent_ok ok hv.2.1 hv.2.2 (by omega)
                            have hst := hv.1
                            have ht0 := hv.2.1
                            have ht1 := hv.2.2
                            have hrs : R.stopped = false := by rw [rel.sp, hst]
                            obtain ⟨h3, ws3, sl3, e27, left, hws⟩ := c27 (h := h.set p (P.sent R.next).blk ++ [⟨BSt.tip false, ACells.ints .i64 [6, z1, z2]⟩]) (good_app (good_set hg0 rfl) rfl) ((pl.hr.set pl.ne pl.na _).app [⟨BSt.tip false, ACells.ints .i64 [6, z1, z2]⟩]) ht0 ht1 hrs (by rw [rel.ex]; omega) (by rw [rel.le]; omega) (by have := rel.rq; omega)
                            have hw : wadd g.length [] ws3 = [] := wadd_ge fun b hb => by
                              rcases hws b hb with h1 | h1
                              · omega
                              · exact pl.ga b h1
                            simp (maxDischargeDepth := 9) -implicitDefEqProofs only [push_cast, reduceIte, Nat.reduceEqDiff, Nat.reduceAdd, Nat.reduceSub, Nat.reduceMul, Nat.reduceDiv, Nat.reduceMod, Nat.reduceLT, Nat.reduceLeDiff, Nat.reduceBEq, Nat.reduceBNe, reduceCtorEq, Int.reduceEq, Int.reduceNe, Int.reduceLT, Int.reduceLE, Int.reduceToNat, Int.reduceNeg, Int.reduceAdd, Int.reduceSub, Int.reduceMul, Int.reducePow, Nat.reducePow, Int.reduceBEq, hg0, hp, hlp, hrb, hrl, hpr, hrp, hpc, hcp, hrc, hcr, hcl, hpg, hrg, hhg, isPo_blk, rdPo_blk, notOld_Po, notOld_Re, c21, e27, hw, ok, hst, ht0, ht1, Re.blk, Re.cells]
                            refine ⟨p, P.sent R.next, R.sent R.next sl3, h3, ?_, pl1.both (by rw [List.set_append_left _ _ hlp]; exact left) ok1 (rel.sent _ _) (by rw [sent_req]; push_cast; omega), ?_⟩
                            · first | rfl | (simp (maxDischargeDepth := 9) -implicitDefEqProofs only [push_cast, reduceIte, Nat.reduceEqDiff, Nat.reduceAdd, Nat.reduceSub, Nat.reduceMul, Nat.reduceDiv, Nat.reduceMod, Nat.reduceLT, Nat.reduceLeDiff, Nat.reduceBEq, Nat.reduceBNe, reduceCtorEq, Int.reduceEq, Int.reduceNe, Int.reduceLT, Int.reduceLE, Int.reduceToNat, Int.reduceNeg, Int.reduceAdd, Int.reduceSub, Int.reduceMul, Int.reducePow, Nat.reducePow, Int.reduceBEq])
                            · exact left.keep h.length _ (by omega) (fun hn => by have := pl.hr.ansLt hn; omega) (by rw [List.getElem?_append_right (by simp)]; simp) (by simp)
                          · have e27 : W C 27 [.ptr r 0, .int .i64 R.next] (h ++ [⟨BSt.tip false, ACells.ints .i64 [6, z1, z2]⟩]) = some (.int .i64 (if R.next < 0 ∨ 4611686018427387904 < R.next then 1 else 35), h ++ [⟨BSt.tip false, ACells.ints .i64 [6, z1, z2]⟩], []) := by
                              by_cases hb : R.next < 0 ∨ 4611686018427387904 < R.next
                              · rw [if_pos hb]; exact c27_bad pl1.good pl1.hr hb
                              · rw [if_neg hb]
                                refine c27_stop pl1.good pl1.hr (by omega) (by omega) ?_
                                rw [rel.sp]
                                cases hh : P.stopped with
                                | true => rfl
                                | false => exact absurd ⟨hh, by omega, by omega⟩ hv
                            simp (maxDischargeDepth := 9) -implicitDefEqProofs only [push_cast, reduceIte, Nat.reduceEqDiff, Nat.reduceAdd, Nat.reduceSub, Nat.reduceMul, Nat.reduceDiv, Nat.reduceMod, Nat.reduceLT, Nat.reduceLeDiff, Nat.reduceBEq, Nat.reduceBNe, reduceCtorEq, Int.reduceEq, Int.reduceNe, Int.reduceLT, Int.reduceLE, Int.reduceToNat, Int.reduceNeg, Int.reduceAdd, Int.reduceSub, Int.reduceMul, Int.reducePow, Nat.reducePow, Int.reduceBEq, hg0, hp, hlp, hrb, hrl, hpr, hrp, hpc, hcp, hrc, hcr, hcl, hpg, hrg, hhg, isPo_blk, rdPo_blk, notOld_Po, notOld_Re, c21_no, e27, m0, hv, Re.blk, Re.cells]
                            refine ⟨p, P, R, h ++ [⟨BSt.tip false, ACells.ints .i64 [6, z1, z2]⟩], ?_, pl1.same, by simp⟩
                            first | rfl | (simp (maxDischargeDepth := 9) -implicitDefEqProofs only [push_cast, reduceIte, Nat.reduceEqDiff, Nat.reduceAdd, Nat.reduceSub, Nat.reduceMul, Nat.reduceDiv, Nat.reduceMod, Nat.reduceLT, Nat.reduceLeDiff, Nat.reduceBEq, Nat.reduceBNe, reduceCtorEq, Int.reduceEq, Int.reduceNe, Int.reduceLT, Int.reduceLE, Int.reduceToNat, Int.reduceNeg, Int.reduceAdd, Int.reduceSub, Int.reduceMul, Int.reducePow, Nat.reducePow, Int.reduceBEq])
                        · have pl1 := pl.app [⟨BSt.tip false, ACells.ints .i64 [z0, z1, z2]⟩] rfl
                          simp (maxDischargeDepth := 9) -implicitDefEqProofs only [push_cast, reduceIte, Nat.reduceEqDiff, Nat.reduceAdd, Nat.reduceSub, Nat.reduceMul, Nat.reduceDiv, Nat.reduceMod, Nat.reduceLT, Nat.reduceLeDiff, Nat.reduceBEq, Nat.reduceBNe, reduceCtorEq, Int.reduceEq, Int.reduceNe, Int.reduceLT, Int.reduceLE, Int.reduceToNat, Int.reduceNeg, Int.reduceAdd, Int.reduceSub, Int.reduceMul, Int.reducePow, Nat.reducePow, Int.reduceBEq, hg0, hp, hlp, hrb, hrl, hpr, hrp, hpc, hcp, hrc, hcr, hcl, hpg, hrg, hhg, isPo_blk, rdPo_blk, notOld_Po, notOld_Re, w0, w1, w2, w3, w4, w5, w6]
                          refine ⟨p, P, R, h ++ [⟨BSt.tip false, ACells.ints .i64 [z0, z1, z2]⟩], ?_, pl1.same, by simp⟩
                          first | rfl | (simp (maxDischargeDepth := 9) -implicitDefEqProofs only [push_cast, reduceIte, Nat.reduceEqDiff, Nat.reduceAdd, Nat.reduceSub, Nat.reduceMul, Nat.reduceDiv, Nat.reduceMod, Nat.reduceLT, Nat.reduceLeDiff, Nat.reduceBEq, Nat.reduceBNe, reduceCtorEq, Int.reduceEq, Int.reduceNe, Int.reduceLT, Int.reduceLE, Int.reduceToNat, Int.reduceNeg, Int.reduceAdd, Int.reduceSub, Int.reduceMul, Int.reducePow, Nat.reducePow, Int.reduceBEq])
          · rintro oo ⟨p', P', R', h3, rfl, pl3, hc3⟩
            have hok := pl3.ok
            have hm := pl3.ok.m
            have hg3 := pl3.good
            have hp3 := pl3.hp
            have hrb := pl3.hr.blk
            have hrl := pl3.hr.lt
            have hrl' : ¬ h3.length ≤ r := by omega
            have hcl := (List.getElem?_eq_some_iff.1 hc3).1
            have hcl' : ¬ h3.length ≤ h.length := by omega
            have a32 := c32 hg3 pl3.hr (by have := pl3.rq; have := pl3.rel.rq; omega)
            have a33 : W C 33 [.ptr r 0, .int .i64 z2] h3 = _ := c33 hg3 pl3.hr
            have r1 := pl3.rel.ex
            have r2 := pl3.rel.le
            have r3 := pl3.rel.nx
            have r4 := pl3.rel.sp
            have r5 := pl3.rel.rg
            rw [r3, r4] at a33
            cases hst : P'.stopped
            · rw [hst] at a33 r4
              simp (maxDischargeDepth := 9) -implicitDefEqProofs only [push_cast, reduceIte, Nat.reduceEqDiff, Nat.reduceAdd, Nat.reduceSub, Nat.reduceMul, Nat.reduceDiv, Nat.reduceMod, Nat.reduceLT, Nat.reduceLeDiff, Nat.reduceBEq, Nat.reduceBNe, reduceCtorEq, Int.reduceEq, Int.reduceNe, Int.reduceLT, Int.reduceLE, Int.reduceToNat, Int.reduceNeg, Int.reduceAdd, Int.reduceSub, Int.reduceMul, Int.reducePow, Nat.reducePow, Int.reduceBEq, hp3, hg3, hrb, hrl, hrl', hc3, hcl, hcl', isPo_blk, rdPo_blk, hm, c19, c25, c22, c23, c20, a32, a33, r1, r2, r3, r4, r5, hst, Re.blk, Re.cells, v1]
              refine loop_next (n - (i + 1)) (by omega) ⟨i + 1, p', r, P', R', rfl, by omega, by omega, ?_, rfl, pl3⟩
              simp (maxDischargeDepth := 9) -implicitDefEqProofs only [push_cast, reduceIte, Nat.reduceEqDiff, Nat.reduceAdd, Nat.reduceSub, Nat.reduceMul, Nat.reduceDiv, Nat.reduceMod, Nat.reduceLT, Nat.reduceLeDiff, Nat.reduceBEq, Nat.reduceBNe, reduceCtorEq, Int.reduceEq, Int.reduceNe, Int.reduceLT, Int.reduceLE, Int.reduceToNat, Int.reduceNeg, Int.reduceAdd, Int.reduceSub, Int.reduceMul, Int.reducePow, Nat.reducePow, Int.reduceBEq]
            · rw [hst] at a33 r4
              simp (maxDischargeDepth := 9) -implicitDefEqProofs only [push_cast, reduceIte, Nat.reduceEqDiff, Nat.reduceAdd, Nat.reduceSub, Nat.reduceMul, Nat.reduceDiv, Nat.reduceMod, Nat.reduceLT, Nat.reduceLeDiff, Nat.reduceBEq, Nat.reduceBNe, reduceCtorEq, Int.reduceEq, Int.reduceNe, Int.reduceLT, Int.reduceLE, Int.reduceToNat, Int.reduceNeg, Int.reduceAdd, Int.reduceSub, Int.reduceMul, Int.reducePow, Nat.reducePow, Int.reduceBEq, hp3, hg3, hrb, hrl, hrl', hc3, hcl, hcl', isPo_blk, rdPo_blk, hm, c19, c25, c22, c23, c20, a32, a33, r1, r2, r3, r4, r5, hst, Re.blk, Re.cells, v1]
              refine loop_next (n - (i + 1)) (by omega) ⟨i + 1, p', r, P', R', rfl, by omega, by omega, ?_, rfl, pl3⟩
              simp (maxDischargeDepth := 9) -implicitDefEqProofs only [push_cast, reduceIte, Nat.reduceEqDiff, Nat.reduceAdd, Nat.reduceSub, Nat.reduceMul, Nat.reduceDiv, Nat.reduceMod, Nat.reduceLT, Nat.reduceLeDiff, Nat.reduceBEq, Nat.reduceBNe, reduceCtorEq, Int.reduceEq, Int.reduceNe, Int.reduceLT, Int.reduceLE, Int.reduceToNat, Int.reduceNeg, Int.reduceAdd, Int.reduceSub, Int.reduceMul, Int.reducePow, Nat.reducePow, Int.reduceBEq]
      · have hi2 : i = n := by omega
        have hnl : ¬ (i : Int) < (n : Int) := by omega
        simp (maxDischargeDepth := 9) -implicitDefEqProofs only [push_cast, reduceIte, Nat.reduceEqDiff, Nat.reduceAdd, Nat.reduceSub, Nat.reduceMul, Nat.reduceDiv, Nat.reduceMod, Nat.reduceLT, Nat.reduceLeDiff, Nat.reduceBEq, Nat.reduceBNe, reduceCtorEq, Int.reduceEq, Int.reduceNe, Int.reduceLT, Int.reduceLE, Int.reduceToNat, Int.reduceNeg, Int.reduceAdd, Int.reduceSub, Int.reduceMul, Int.reducePow, Nat.reducePow, Int.reduceBEq, hnl, hna]
  · simp (maxDischargeDepth := 9) -implicitDefEqProofs only [push_cast, reduceIte, Nat.reduceEqDiff, Nat.reduceAdd, Nat.reduceSub, Nat.reduceMul, Nat.reduceDiv, Nat.reduceMod, Nat.reduceLT, Nat.reduceLeDiff, Nat.reduceBEq, Nat.reduceBNe, reduceCtorEq, Int.reduceEq, Int.reduceNe, Int.reduceLT, Int.reduceLE, Int.reduceToNat, Int.reduceNeg, Int.reduceAdd, Int.reduceSub, Int.reduceMul, Int.reducePow, Nat.reducePow, Int.reduceBEq, M6, c15_bad, c26_bad, hgood, c16, c18_nil, c20_nil]

theorem plays_law (js : AHeap) (avs : List AV) (hx : Ext js) (ht : TyA (C.gl ++ js) [.agg [.i .i64, .i .i64, .i .i64], .one (.sl [.i .i64, .i .i64, .i .i64])] avs) : ∃ h' ws, W C 6 avs (C.gl ++ js) = some (.bool true, h', ws) := by
  simp only [TyA] at ht
  obtain ⟨cs, vs, rfl, h1, v, _, rfl, h3, rfl⟩ := ht
  simp only [TyL, Ty] at h1
  obtain ⟨_, _, rfl, ⟨a, rfl, _⟩, _, _, rfl, ⟨b, rfl, _⟩, _, _, rfl, ⟨c, rfl, _⟩, rfl⟩ := h1
  obtain ⟨es, h4, h5⟩ := Ty_sl h3
  rcases h4 with ⟨rfl, rfl⟩ | ⟨q, cap, rfl, g1, g2, g3, g4⟩
  · exact W_law (m := M6) (fun _ => rfl) rfl (plays_at _ hx.good a b c _ 0 (by omega) (Or.inl ⟨rfl, rfl⟩)) fun _ => plays_at _ good_nil a b c _ 0 (by omega) (Or.inl ⟨rfl, rfl⟩)
  · refine W_law (m := M6) (fun _ => rfl) rfl ?_ fun h0 => by simp [AV.lts, AV.lt] at h0
    have hl := flat_len (l := [CK.i .i64, .i .i64, .i .i64]) fun e he => (TyL_lt (h5 e he)).2.2
    refine plays_at _ hx.good a b c _ es.length (by unfold maxLen at g2; omega) (Or.inr ⟨q, 0, cap, es.flatten.map toI, rfl, g1, g3, g4, ?_⟩)
    rw [List.length_map, hl]; simp; omega
theorem plays_kinds : aksOf X.P 20 [23, 24] = some [.agg [.i .i64, .i .i64, .i .i64], .one (.sl [.i .i64, .i .i64, .i .i64])] := by kernel_rfl
end Go.Proofs.YtimlhgpjmjmjhaaW.AI.B
