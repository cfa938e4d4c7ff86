import Derived.Test.YtimlhgpjmjmjhaaAIBpfacts
namespace Go.Proofs.YtimlhgpjmjmjhaaW.AI.B
open Go Go.Proofs.YtimlhgpjmjmjhaaW.AI
set_option maxRecDepth 100000
set_option linter.unusedSimpArgs false
set_option linter.unusedVariables false
set_option linter.unusedSectionVars false

/-- How it stands: what was laid aside, and when it was asked last. -/
structure Dem (i : Nat) (P : Po) (now last : Int) : Prop where
  ok : P.ok
  st : P.stopped = false
  nw : 0 ≤ now ∧ now ≤ (i : Int) * 4398046511104
  nx : 0 ≤ P.next ∧ P.next ≤ (i : Int) * 4398046511104
  rq : P.req ≤ i
  ls : (last = -1 ∧ P.req = 0) ∨ (0 ≤ last ∧ P.last = last ∧ 0 < P.req)
  lw : last ≤ now

theorem Dem.got {i : Nat} {P : Po} {now last : Int} (d : Dem i P now last) (g : Bool) : Dem (i + 1) (P.got g) now last :=
  ⟨got_ok d.ok g, by rw [got_stopped]; exact d.st, by have := d.nw; push_cast; omega, by rw [got_next]; have := d.nx; push_cast; omega, by rw [got_req]; have := d.rq; omega, by rw [got_req, got_last]; exact d.ls, d.lw⟩
theorem Dem.rest {i : Nat} {P : Po} {now last : Int} (d : Dem i P now last) : Dem (i + 1) P now last :=
  ⟨d.ok, d.st, by have := d.nw; push_cast; omega, by have := d.nx; push_cast; omega, by have := d.rq; omega, d.ls, d.lw⟩
theorem Dem.sent {i : Nat} {P : Po} {now last t : Int} (d : Dem i P now last) (hi : i < 1000) (h0 : now ≤ t) (h1 : P.next ≤ t) (h2 : t ≤ (i : Int) * 4398046511104 + 1099511627776) : Dem (i + 1) (P.sent t) t t := by
  have hn := d.nw
  have hq := d.rq
  have ok1 := sent_ok d.ok (now := t) (by omega) (by omega) (by omega)
  have pw := pow_le (e := (P.sent t).exp) (by have := ok1.f; omega) (by have := ok1.f; omega)
  refine ⟨ok1, by rw [sent_stopped]; exact d.st, by push_cast; omega, by rw [sent_next]; push_cast; omega, by rw [sent_req]; push_cast; omega, Or.inr ⟨by omega, sent_last _ _, by rw [sent_req]; have := d.ok.q; omega⟩, Int.le_refl _⟩

theorem andM (a : Int) : 0 ≤ abits .and .i64 a 1099511627775 ∧ abits .and .i64 a 1099511627775 ≤ 1099511627775 := by
  have e : ((BitVec.ofInt IntKind.i64.bits a &&& BitVec.ofInt IntKind.i64.bits 1099511627775).toNat : Int) ≤ 1099511627775 := by
    have h1 : (BitVec.ofInt IntKind.i64.bits a &&& BitVec.ofInt IntKind.i64.bits 1099511627775).toNat = (BitVec.ofInt IntKind.i64.bits a).toNat &&& 1099511627775 := by
      rw [BitVec.toNat_and]; rfl
    rw [h1]
    have := Nat.and_le_right (n := (BitVec.ofInt IntKind.i64.bits a).toNat) (m := 1099511627775)
    omega
  have e0 : (0 : Int) ≤ ((BitVec.ofInt IntKind.i64.bits a &&& BitVec.ofInt IntKind.i64.bits 1099511627775).toNat : Int) := Int.natCast_nonneg _
  have : abits .and .i64 a 1099511627775 = ((BitVec.ofInt IntKind.i64.bits a &&& BitVec.ofInt IntKind.i64.bits 1099511627775).toNat : Int) := by
    have e1 : abits .and .i64 a 1099511627775 = IntKind.i64.wrap ((BitVec.ofInt IntKind.i64.bits a &&& BitVec.ofInt IntKind.i64.bits 1099511627775).toNat : Int) := rfl
    rw [e1]
    exact wr_i64 _ (by omega) (by omega)
  rw [this]
  exact ⟨e0, e⟩

section
variable {h : AHeap} {pc nc lc p i : Nat} {P : Po} {now last : Int} (hg : Good h) (hp : h[p]? = some P.blk) (hpc : h[pc]? = some ⟨.tip false, .vals [.ptr p 0]⟩) (hnc : h[nc]? = some ⟨.tip false, .ints .i64 [now]⟩)
  (hlc : h[lc]? = some ⟨.tip false, .ints .i64 [last]⟩) (d1 : p ≠ nc) (d2 : p ≠ lc) (d3 : nc ≠ lc) (d4 : pc ≠ p) (d5 : pc ≠ nc) (d6 : pc ≠ lc) (d : Dem i P now last) (hi : i < 1000)
include hg hp hpc hnc hlc d1 d2 d3 d4 d5 d6 d hi

theorem c17_got {w n at_ : Int} (hw : w = 1 ∨ w = 2) :
    W C 17 [.agg [.int .i64 w, .int .i64 n, .int .i64 at_], .ptr pc 0, .ptr nc 0, .ptr lc 0] h = some (.bool true, h.set p (P.got (decide (w = 1))).blk, [p]) := by
  have lp : p < h.length := (List.getElem?_eq_some_iff.1 hp).1
  have lpc : pc < h.length := (List.getElem?_eq_some_iff.1 hpc).1
  have n1 : ¬ p = h.length := by omega
  have ok := d.ok
  have st := d.st
  refine W_set (m := M17) (js := [⟨.tip false, .ints .i64 [w, n, at_]⟩]) rfl rfl rfl rfl rfl hg lp rfl rfl ?_
  rcases hw with rfl | rfl
  · simp (maxDischargeDepth := 9) -implicitDefEqProofs only [push_cast, reduceIte, Nat.reduceEqDiff, Nat.reduceAdd, Nat.reduceSub, Nat.reduceMul, Nat.reduceDiv, Nat.reduceMod, Nat.reduceLT, Nat.reduceLeDiff, Nat.reduceBEq, Nat.reduceBNe, reduceCtorEq, Int.reduceEq, Int.reduceNe, Int.reduceLT, Int.reduceLE, Int.reduceToNat, Int.reduceNeg, Int.reduceAdd, Int.reduceSub, Int.reduceMul, Int.reducePow, Nat.reducePow, Int.reduceBEq, M17, hp, hpc, lp, lpc, n1, hg, c18, isPo_blk, rdPo_blk, ok, st]
  · simp (maxDischargeDepth := 9) -implicitDefEqProofs only [push_cast, reduceIte, Nat.reduceEqDiff, Nat.reduceAdd, Nat.reduceSub, Nat.reduceMul, Nat.reduceDiv, Nat.reduceMod, Nat.reduceLT, Nat.reduceLeDiff, Nat.reduceBEq, Nat.reduceBNe, reduceCtorEq, Int.reduceEq, Int.reduceNe, Int.reduceLT, Int.reduceLE, Int.reduceToNat, Int.reduceNeg, Int.reduceAdd, Int.reduceSub, Int.reduceMul, Int.reducePow, Nat.reducePow, Int.reduceBEq, M17, hp, hpc, lp, lpc, n1, hg, c18, isPo_blk, rdPo_blk, ok, st]

theorem c17_rest {w n at_ : Int} (h0 : ¬ w = 0) (h1 : ¬ w = 1) (h2 : ¬ w = 2) (h6 : ¬ w = 6) :
    W C 17 [.agg [.int .i64 w, .int .i64 n, .int .i64 at_], .ptr pc 0, .ptr nc 0, .ptr lc 0] h = some (.bool true, h, []) := by
  have lp : p < h.length := (List.getElem?_eq_some_iff.1 hp).1
  have lpc : pc < h.length := (List.getElem?_eq_some_iff.1 hpc).1
  have n2 : ¬ h.length = pc := by omega
  have m0 := d.ok.m
  have fl : P.floor ≤ P.exp := d.ok.f.2.1
  refine W_quiet (m := M17) (js := [⟨.tip false, .ints .i64 [w, n, at_]⟩]) rfl rfl rfl rfl rfl hg ?_
  simp (maxDischargeDepth := 9) -implicitDefEqProofs only [push_cast, reduceIte, Nat.reduceEqDiff, Nat.reduceAdd, Nat.reduceSub, Nat.reduceMul, Nat.reduceDiv, Nat.reduceMod, Nat.reduceLT, Nat.reduceLeDiff, Nat.reduceBEq, Nat.reduceBNe, reduceCtorEq, Int.reduceEq, Int.reduceNe, Int.reduceLT, Int.reduceLE, Int.reduceToNat, Int.reduceNeg, Int.reduceAdd, Int.reduceSub, Int.reduceMul, Int.reducePow, Nat.reducePow, Int.reduceBEq, M17, hp, hpc, lp, lpc, n2, hg, c22, c23, isPo_blk, rdPo_blk, m0, h0, h1, h2, h6, fl]

theorem c17_sent {w n at_ : Int} (hw : w = 0 ∨ w = 6) (t : Int) (ht : t = (if now < P.next then P.next else now) + abits .and .i64 at_ 1099511627775) :
    W C 17 [.agg [.int .i64 w, .int .i64 n, .int .i64 at_], .ptr pc 0, .ptr nc 0, .ptr lc 0] h =
      some (.bool true, ((h.set nc ⟨.tip false, .ints .i64 [t]⟩).set p (P.sent t).blk).set lc ⟨.tip false, .ints .i64 [t]⟩, [nc, p, lc]) := by
  have lp : p < h.length := (List.getElem?_eq_some_iff.1 hp).1
  have lpc : pc < h.length := (List.getElem?_eq_some_iff.1 hpc).1
  have lnc : nc < h.length := (List.getElem?_eq_some_iff.1 hnc).1
  have llc : lc < h.length := (List.getElem?_eq_some_iff.1 hlc).1
  have n1 : ¬ p = h.length := by omega
  have n2 : ¬ h.length = pc := by omega
  have d1' := Ne.symm d1
  have d2' := Ne.symm d2
  have d3' := Ne.symm d3
  have d4' := Ne.symm d4
  have d5' := Ne.symm d5
  have d6' := Ne.symm d6
  have hM := andM at_
  have hnw := d.nw
  have hnx := d.nx
  have ok := d.ok
  have st := d.st
  have m0 := d.ok.m
  have ht2 : t ≤ (i : Int) * 4398046511104 + 1099511627776 ∧ now ≤ t ∧ P.next ≤ t := by rw [ht]; split <;> omega
  have w1 : IntKind.i64.wrap ((if now < P.next then P.next else now) + abits .and .i64 at_ 1099511627775) = t := by rw [← ht]; exact wr_i64 _ (by omega) (by omega)
  have dd := d.sent hi ht2.2.1 ht2.2.2 ht2.1
  have ok1 := dd.ok
  have m1 := dd.ok.m
  have fl1 : (P.sent t).floor ≤ (P.sent t).exp := dd.ok.f.2.1
  have t0 : 0 ≤ t := by omega
  have t1 : t ≤ 4611686018427387904 := by omega
  have t2 := ht2.2.2
  refine W_sets (m := M17) (js := [⟨.tip false, .ints .i64 [w, n, at_]⟩]) rfl rfl rfl rfl rfl (by simp) (good_set (good_set (good_set hg rfl) rfl) rfl) ?_ ?_
  · intro b hb
    simp only [List.mem_cons, List.not_mem_nil, or_false] at hb
    rcases hb with rfl | rfl | rfl
    · exact ⟨_, by rw [List.getElem?_set_ne d3', List.getElem?_set_ne d1, List.getElem?_set_self lnc], rfl⟩
    · exact ⟨_, by rw [List.getElem?_set_ne d2', List.getElem?_set_self (by simpa using lp)], rfl⟩
    · exact ⟨_, by rw [List.getElem?_set_self (by simpa using llc)], rfl⟩
  · rcases hw with rfl | rfl
    · simp (maxDischargeDepth := 9) -implicitDefEqProofs only [push_cast, reduceIte, Nat.reduceEqDiff, Nat.reduceAdd, Nat.reduceSub, Nat.reduceMul, Nat.reduceDiv, Nat.reduceMod, Nat.reduceLT, Nat.reduceLeDiff, Nat.reduceBEq, Nat.reduceBNe, reduceCtorEq, Int.reduceEq, Int.reduceNe, Int.reduceLT, Int.reduceLE, Int.reduceToNat, Int.reduceNeg, Int.reduceAdd, Int.reduceSub, Int.reduceMul, Int.reducePow, Nat.reducePow, Int.reduceBEq, M17, hp, hpc, hnc, hlc, lp, lpc, lnc, llc, n1, n2, d1, d2, d3, d4, d5, d1', d2', d3', d4', d5', d6, d6', hg, c19, c20, c21, c22, c23, isPo_blk, rdPo_blk, notOld_Po, ok, st, m0, w1, ok1, m1, fl1, t0, t1, t2]
    · simp (maxDischargeDepth := 9) -implicitDefEqProofs only [push_cast, reduceIte, Nat.reduceEqDiff, Nat.reduceAdd, Nat.reduceSub, Nat.reduceMul, Nat.reduceDiv, Nat.reduceMod, Nat.reduceLT, Nat.reduceLeDiff, Nat.reduceBEq, Nat.reduceBNe, reduceCtorEq, Int.reduceEq, Int.reduceNe, Int.reduceLT, Int.reduceLE, Int.reduceToNat, Int.reduceNeg, Int.reduceAdd, Int.reduceSub, Int.reduceMul, Int.reducePow, Nat.reducePow, Int.reduceBEq, M17, hp, hpc, hnc, hlc, lp, lpc, lnc, llc, n1, n2, d1, d2, d3, d4, d5, d1', d2', d3', d4', d5', d6, d6', hg, c19, c20, c21, c22, c23, isPo_blk, rdPo_blk, notOld_Po, ok, st, m0, w1, ok1, m1, fl1, t0, t1, t2]
end

theorem pow_mono {a b : Int} (h : a ≤ b) (hb : b ≤ 1000) : (2 : Int) ^ a.toNat ≤ 2 ^ b.toNat := by
  have : a.toNat ≤ b.toNat := by omega
  exact_mod_cast Nat.pow_le_pow_right (by omega) this
theorem Dem.rate {i : Nat} {P : Po} {now last k : Int} (d : Dem i P now last) (h0 : 4 ≤ k) (h1 : k ≤ 10) : Dem (i + 1) (P.rate k) now last := by
  have hf := d.ok.f
  have ok1 := rate_ok d.ok h0 h1
  have hnx := d.nx
  have hnw := d.nw
  have hlw := d.lw
  refine ⟨ok1, d.st, by push_cast; omega, ?_, by have := d.rq; show P.req ≤ _; omega, d.ls, hlw⟩
  have f1 := ok1.f
  have pw := pow_le (e := (P.rate k).exp) (by omega) (by omega)
  have e : (P.rate k).next = if 0 < P.req then (if P.next < P.last + 1000000000 * 2 ^ (P.rate k).exp.toNat then P.last + 1000000000 * 2 ^ (P.rate k).exp.toNat else P.next) else P.next := rfl
  rw [e]
  push_cast
  rcases d.ls with ⟨_, h⟩ | ⟨h2, h3, h4⟩
  · rw [if_neg (by omega)]; omega
  · rw [if_pos h4]; split <;> omega

abbrev Hp (g : AHeap) (bx : ABlk) (P : Po) (now last : Int) (js : AHeap) : AHeap :=
  g ++ (bx :: P.blk :: ⟨.tip false, .vals [.ptr (g.length + 1) 0]⟩ :: ⟨.tip false, .ints .i64 [now]⟩ :: ⟨.tip false, .ints .i64 [last]⟩ :: js)

theorem dem_call {g : AHeap} {bx : ABlk} {P : Po} {now last : Int} {js : AHeap} {i : Nat} (hg : Good g) (hbx : notOld bx = true) (hjs : js.all notOld = true) (d : Dem i P now last) (hi : i < 1000) (w n at_ : Int) :
    ∃ P' now' last' ws, W C 17 [.agg [.int .i64 w, .int .i64 n, .int .i64 at_], .ptr (g.length + 2) 0, .ptr (g.length + 3) 0, .ptr (g.length + 4) 0] (Hp g bx P now last js) = some (.bool true, Hp g bx P' now' last' js, ws) ∧
      Dem (i + 1) P' now' last' ∧ wadd g.length [] ws = [] ∧ P'.floor = P.floor ∧ P'.most = P.most ∧ ((last' = last ∧ P'.next = P.next) ∨ (P.next ≤ last' ∧ last ≤ last' ∧ P'.next = last' + 1000000000 * 2 ^ P'.exp.toNat)) := by
  have hG : Good (Hp g bx P now last js) := good_app hg (by simp [hbx, hjs, notOld_Po, notOld_tip])
  have hp : (Hp g bx P now last js)[g.length + 1]? = some P.blk := by simp (maxDischargeDepth := 9) -implicitDefEqProofs only [push_cast, reduceIte, Nat.reduceEqDiff, Nat.reduceAdd, Nat.reduceSub, Nat.reduceMul, Nat.reduceDiv, Nat.reduceMod, Nat.reduceLT, Nat.reduceLeDiff, Nat.reduceBEq, Nat.reduceBNe, reduceCtorEq, Int.reduceEq, Int.reduceNe, Int.reduceLT, Int.reduceLE, Int.reduceToNat, Int.reduceNeg, Int.reduceAdd, Int.reduceSub, Int.reduceMul, Int.reducePow, Nat.reducePow, Int.reduceBEq]
  have hpc : (Hp g bx P now last js)[g.length + 2]? = some ⟨.tip false, .vals [.ptr (g.length + 1) 0]⟩ := by simp (maxDischargeDepth := 9) -implicitDefEqProofs only [push_cast, reduceIte, Nat.reduceEqDiff, Nat.reduceAdd, Nat.reduceSub, Nat.reduceMul, Nat.reduceDiv, Nat.reduceMod, Nat.reduceLT, Nat.reduceLeDiff, Nat.reduceBEq, Nat.reduceBNe, reduceCtorEq, Int.reduceEq, Int.reduceNe, Int.reduceLT, Int.reduceLE, Int.reduceToNat, Int.reduceNeg, Int.reduceAdd, Int.reduceSub, Int.reduceMul, Int.reducePow, Nat.reducePow, Int.reduceBEq]
  have hnc : (Hp g bx P now last js)[g.length + 3]? = some ⟨.tip false, .ints .i64 [now]⟩ := by simp (maxDischargeDepth := 9) -implicitDefEqProofs only [push_cast, reduceIte, Nat.reduceEqDiff, Nat.reduceAdd, Nat.reduceSub, Nat.reduceMul, Nat.reduceDiv, Nat.reduceMod, Nat.reduceLT, Nat.reduceLeDiff, Nat.reduceBEq, Nat.reduceBNe, reduceCtorEq, Int.reduceEq, Int.reduceNe, Int.reduceLT, Int.reduceLE, Int.reduceToNat, Int.reduceNeg, Int.reduceAdd, Int.reduceSub, Int.reduceMul, Int.reducePow, Nat.reducePow, Int.reduceBEq]
  have hlc : (Hp g bx P now last js)[g.length + 4]? = some ⟨.tip false, .ints .i64 [last]⟩ := by simp (maxDischargeDepth := 9) -implicitDefEqProofs only [push_cast, reduceIte, Nat.reduceEqDiff, Nat.reduceAdd, Nat.reduceSub, Nat.reduceMul, Nat.reduceDiv, Nat.reduceMod, Nat.reduceLT, Nat.reduceLeDiff, Nat.reduceBEq, Nat.reduceBNe, reduceCtorEq, Int.reduceEq, Int.reduceNe, Int.reduceLT, Int.reduceLE, Int.reduceToNat, Int.reduceNeg, Int.reduceAdd, Int.reduceSub, Int.reduceMul, Int.reducePow, Nat.reducePow, Int.reduceBEq]
  by_cases h12 : w = 1 ∨ w = 2
  · refine ⟨P.got (decide (w = 1)), now, last, [g.length + 1], (c17_got hG hp hpc hnc hlc (by omega) (by omega) (by omega) (by omega) (by omega) (by omega) d hi h12).trans ?_, d.got _, ?_, got_floor _ _, got_most _ _, Or.inl ⟨rfl, got_next _ _⟩⟩
    · simp (maxDischargeDepth := 9) -implicitDefEqProofs only [push_cast, reduceIte, Nat.reduceEqDiff, Nat.reduceAdd, Nat.reduceSub, Nat.reduceMul, Nat.reduceDiv, Nat.reduceMod, Nat.reduceLT, Nat.reduceLeDiff, Nat.reduceBEq, Nat.reduceBNe, reduceCtorEq, Int.reduceEq, Int.reduceNe, Int.reduceLT, Int.reduceLE, Int.reduceToNat, Int.reduceNeg, Int.reduceAdd, Int.reduceSub, Int.reduceMul, Int.reducePow, Nat.reducePow, Int.reduceBEq]
    · exact wadd_ge (by simp)
  · by_cases h06 : w = 0 ∨ w = 6
    · have hM := andM at_
      obtain ⟨t, ht⟩ : ∃ t, t = (if now < P.next then P.next else now) + abits .and .i64 at_ 1099511627775 := ⟨_, rfl⟩
      have hnw := d.nw
      have hnx := d.nx
      have hlw := d.lw
      have ht2 : t ≤ (i : Int) * 4398046511104 + 1099511627776 ∧ now ≤ t ∧ P.next ≤ t := by rw [ht]; split <;> omega
      refine ⟨P.sent t, t, t, [g.length + 3, g.length + 1, g.length + 4], (c17_sent hG hp hpc hnc hlc (by omega) (by omega) (by omega) (by omega) (by omega) (by omega) d hi h06 t ht).trans ?_, d.sent hi ht2.2.1 ht2.2.2 ht2.1, ?_, sent_floor _ _, sent_most _ _, Or.inr ⟨ht2.2.2, by omega, sent_next _ _⟩⟩
      · simp (maxDischargeDepth := 9) -implicitDefEqProofs only [push_cast, reduceIte, Nat.reduceEqDiff, Nat.reduceAdd, Nat.reduceSub, Nat.reduceMul, Nat.reduceDiv, Nat.reduceMod, Nat.reduceLT, Nat.reduceLeDiff, Nat.reduceBEq, Nat.reduceBNe, reduceCtorEq, Int.reduceEq, Int.reduceNe, Int.reduceLT, Int.reduceLE, Int.reduceToNat, Int.reduceNeg, Int.reduceAdd, Int.reduceSub, Int.reduceMul, Int.reducePow, Nat.reducePow, Int.reduceBEq]
      · exact wadd_ge (by simp)
    · refine ⟨P, now, last, [], c17_rest hG hp hpc hnc hlc (by omega) (by omega) (by omega) (by omega) (by omega) (by omega) d hi (by omega) (by omega) (by omega) (by omega), d.rest, rfl, rfl, rfl, Or.inl ⟨rfl, rfl⟩⟩

set_option maxHeartbeats 4000000 in
theorem demand_at (g : AHeap) (hg : Good g) (a b c d : Int) (hd : 0 ≤ d ∧ d ≤ 255) (q n cap : Nat) (zs : List Int) (hn : n ≤ cap) (hn2 : n ≤ 9223372036854775807) (hql : q < g.length) (hq : g[q]? = some ⟨.ext, .ints .i64 zs⟩) (hz : zs.length = 3 * n) :
    Wp (xbody (W C) M3 [.agg [.int .i64 a, .int .i64 b, .int .i64 c], .int .u8 d, .sl q 0 n cap] g) fun r => r.1 = .bool true := by
  have u1 := um a 7 (by omega) (by omega)
  generalize h1 : IntKind.i64.wrap ((IntKind.u64.wrap a).tmod 7) = m1 at u1
  obtain ⟨least, hl⟩ : ∃ l, 4 + m1 = l := ⟨_, rfl⟩
  have w1 : IntKind.i64.wrap (4 + m1) = least := by rw [← hl]; exact wr_i64 _ (by omega) (by omega)
  have w2 : IntKind.i64.wrap (11 - least) = 11 - least := wr_i64 _ (by omega) (by omega)
  have w3 : IntKind.u64.wrap (11 - least) = 11 - least := wr_u64 _ (by omega) (by omega)
  have n3 : ¬ (11 - least) = 0 := by omega
  have u2 := um b (11 - least) (by omega) (by omega)
  generalize h2 : IntKind.i64.wrap ((IntKind.u64.wrap b).tmod (11 - least)) = m2 at u2
  obtain ⟨most, hm⟩ : ∃ l, least + m2 = l := ⟨_, rfl⟩
  have w4 : IntKind.i64.wrap (least + m2) = most := by rw [← hm]; exact wr_i64 _ (by omega) (by omega)
  have l1 : 4 ≤ least := by omega
  have l2 : least ≤ most := by omega
  have l3 : most ≤ 10 := by omega
  obtain ⟨m, hmm, hmn, hm60⟩ : ∃ m : Nat, (if (60 : Int) < (n : Int) then (60 : Int) else (n : Int)) = (m : Int) ∧ m ≤ n ∧ m ≤ 60 := by
    by_cases h : 60 < n
    · exact ⟨60, by rw [if_pos (by omega)]; rfl, by omega, by omega⟩
    · exact ⟨n, by rw [if_neg (by omega)], by omega, by omega⟩
  obtain ⟨r, hr⟩ : ∃ r, m / 2 = r := ⟨_, rfl⟩
  obtain ⟨s, hs⟩ : ∃ s, m - r = s := ⟨_, rfl⟩
  have t1 : IntKind.i64.wrap ((m : Int).tdiv 2) = (r : Int) := by
    rw [Int.tdiv_eq_ediv_of_nonneg (by omega), ← hr]; push_cast; exact wr_i64 _ (by omega) (by omega)
  have t2 : r ≤ cap := by omega
  have t3 : m ≤ cap := by omega
  have t4 : r ≤ m := by omega
  simp (maxDischargeDepth := 9) -implicitDefEqProofs only [push_cast, reduceIte, Nat.reduceEqDiff, Nat.reduceAdd, Nat.reduceSub, Nat.reduceMul, Nat.reduceDiv, Nat.reduceMod, Nat.reduceLT, Nat.reduceLeDiff, Nat.reduceBEq, Nat.reduceBNe, reduceCtorEq, Int.reduceEq, Int.reduceNe, Int.reduceLT, Int.reduceLE, Int.reduceToNat, Int.reduceNeg, Int.reduceAdd, Int.reduceSub, Int.reduceMul, Int.reducePow, Nat.reducePow, Int.reduceBEq, M3, h1, w1, w2, w3, n3, h2, w4, hmm, t1, t2, t3, t4, hs, c15, l1, l2, l3, c16]
  refine wp_kRes (wp_kSeq (wp_kBlock ?_))
  have bnd : ∀ i, i < 3 * n → ∃ z, zs[i]? = some z := fun i hi => ⟨_, List.getElem?_eq_getElem (by omega)⟩
  have q0 : q < g.length := hql
  refine wp_loop (fun k a h ws => ∃ (i : Nat) (P : Po) (now last : Int) (bx : ABlk) (js : AHeap), k = r - i ∧ i ≤ r ∧
      a = [(1, .int .u8 d), (8, .sl q (r * 3) s (cap - r)), (10, .int .i64 most), (11, .ptr (g.length + 2) 0), (14, .ptr (g.length + 4) 0), (15, .fn 17 [.ptr (g.length + 2) 0, .ptr (g.length + 3) 0, .ptr (g.length + 4) 0]),
        (66, .sl q 0 r cap), (67, .int .i64 (r : Int)), (68, .int .i64 (i : Int))] ∧
      h = Hp g bx P now last js ∧ notOld bx = true ∧ js.all notOld = true ∧ ws = [] ∧ Dem i P now last ∧ P.most = most) r ?_ ?_
  · refine ⟨0, Po.new least most 0, 0, -1, _, [], by omega, by omega, ?_, rfl, rfl, rfl, rfl, ?_, rfl⟩
    · simp (maxDischargeDepth := 9) -implicitDefEqProofs only [push_cast, reduceIte, Nat.reduceEqDiff, Nat.reduceAdd, Nat.reduceSub, Nat.reduceMul, Nat.reduceDiv, Nat.reduceMod, Nat.reduceLT, Nat.reduceLeDiff, Nat.reduceBEq, Nat.reduceBNe, reduceCtorEq, Int.reduceEq, Int.reduceNe, Int.reduceLT, Int.reduceLE, Int.reduceToNat, Int.reduceNeg, Int.reduceAdd, Int.reduceSub, Int.reduceMul, Int.reducePow, Nat.reducePow, Int.reduceBEq]
    · refine ⟨?_, rfl, by simp, by simp [Po.new], by simp [Po.new], Or.inl ⟨rfl, rfl⟩, by omega⟩
      constructor <;> simp [Po.new] <;> omega
  · rintro k aa h ws ⟨i, P, now, last, bx, js, rfl, hi, rfl, rfl, hbx, hjs, rfl, dm, hmo⟩
    by_cases hlt : i < r
    · have hlt' : (i : Int) < (r : Int) := by omega
      obtain ⟨z0, e0⟩ := bnd (i * 3) (by omega)
      obtain ⟨z1, e1⟩ := bnd (i * 3 + 1) (by omega)
      obtain ⟨z2, e2⟩ := bnd (i * 3 + 2) (by omega)
      have v1 : IntKind.i64.wrap ((i : Int) + 1) = (i : Int) + 1 := wr_i64 _ (by omega) (by omega)
      obtain ⟨P', now', last', ws', hc, dm', hw, fl, mo, _⟩ := dem_call (js := js ++ [⟨.tip false, .ints .i64 [z0, z1, z2]⟩]) hg hbx (by simp [hjs, notOld_tip]) dm (by omega) z0 z1 z2
      unfold Hp at hc
      simp (maxDischargeDepth := 9) -implicitDefEqProofs only [push_cast, reduceIte, Nat.reduceEqDiff, Nat.reduceAdd, Nat.reduceSub, Nat.reduceMul, Nat.reduceDiv, Nat.reduceMod, Nat.reduceLT, Nat.reduceLeDiff, Nat.reduceBEq, Nat.reduceBNe, reduceCtorEq, Int.reduceEq, Int.reduceNe, Int.reduceLT, Int.reduceLE, Int.reduceToNat, Int.reduceNeg, Int.reduceAdd, Int.reduceSub, Int.reduceMul, Int.reducePow, Nat.reducePow, Int.reduceBEq, hlt, hlt', hq, q0, e0, e1, e2, v1, hc, hw]
      refine loop_next (r - (i + 1)) (by omega) ⟨i + 1, P', now', last', bx, _, rfl, by omega, ?_, rfl, hbx, by simp [hjs, notOld_tip], rfl, dm', by rw [mo, hmo]⟩
      simp (maxDischargeDepth := 9) -implicitDefEqProofs only [push_cast, reduceIte, Nat.reduceEqDiff, Nat.reduceAdd, Nat.reduceSub, Nat.reduceMul, Nat.reduceDiv, Nat.reduceMod, Nat.reduceLT, Nat.reduceLeDiff, Nat.reduceBEq, Nat.reduceBNe, reduceCtorEq, Int.reduceEq, Int.reduceNe, Int.reduceLT, Int.reduceLE, Int.reduceToNat, Int.reduceNeg, Int.reduceAdd, Int.reduceSub, Int.reduceMul, Int.reducePow, Nat.reducePow, Int.reduceBEq]
    · have hi2 : i = r := by omega
      have hnlt : ¬ (i : Int) < (r : Int) := by omega
      have w8 : d.tmod 7 = d % 7 := Int.tmod_eq_emod_of_nonneg hd.1
      have w9 : IntKind.i64.wrap (d % 7) = d % 7 := wr_i64 _ (by omega) (by omega)
      have w10 : IntKind.i64.wrap (4 + d % 7) = 4 + d % 7 := wr_i64 _ (by omega) (by omega)
      obtain ⟨kk, hkk⟩ : ∃ l, 4 + d % 7 = l := ⟨_, rfl⟩
      rw [hkk] at w10
      have k1 : 4 ≤ kk := by omega
      have k2 : kk ≤ 10 := by omega
      have ok := dm.ok
      have st := dm.st
      have dr := dm.rate k1 k2
      have okr := dr.ok
      have mr := dr.ok.m
      have fr : kk ≤ (P.rate kk).floor := by show kk ≤ (if P.floor < kk then kk else P.floor); split <;> omega
      have er : kk ≤ (P.rate kk).exp := by have := okr.f; omega
      have fr' : ¬ (P.rate kk).floor < kk := by omega
      have er' : ¬ (P.rate kk).exp < kk := by omega
      have mor : (P.rate kk).most = if most < kk then kk else most := by rw [← hmo]; rfl
      simp (maxDischargeDepth := 9) -implicitDefEqProofs only [push_cast, reduceIte, Nat.reduceEqDiff, Nat.reduceAdd, Nat.reduceSub, Nat.reduceMul, Nat.reduceDiv, Nat.reduceMod, Nat.reduceLT, Nat.reduceLeDiff, Nat.reduceBEq, Nat.reduceBNe, reduceCtorEq, Int.reduceEq, Int.reduceNe, Int.reduceLT, Int.reduceLE, Int.reduceToNat, Int.reduceNeg, Int.reduceAdd, Int.reduceSub, Int.reduceMul, Int.reducePow, Nat.reducePow, Int.reduceBEq, hnlt, w8, w9, hkk, w10, hg, hbx, hjs, isPo_blk, rdPo_blk, notOld_Po, c24, c22, c23, ok, st, mr, k1, k2, fr', er']
      refine wp_kSeq (wp_kBlock ?_)
      refine wp_loop (fun k a h ws => ∃ (j : Nat) (P : Po) (now last : Int) (bx : ABlk) (js : AHeap), k = s - j ∧ j ≤ s ∧
          a = [(10, .int .i64 most), (11, .ptr (g.length + 2) 0), (14, .ptr (g.length + 4) 0), (15, .fn 17 [.ptr (g.length + 2) 0, .ptr (g.length + 3) 0, .ptr (g.length + 4) 0]), (18, .int .i64 kk),
            (97, .sl q (r * 3) s (cap - r)), (98, .int .i64 (s : Int)), (99, .int .i64 (j : Int))] ∧
          h = Hp g bx P now last js ∧ notOld bx = true ∧ js.all notOld = true ∧ ws = [] ∧ Dem (r + 1 + j) P now last ∧ kk ≤ P.floor ∧ P.most = (if most < kk then kk else most) ∧ (0 ≤ last → last + 1000000000 * 2 ^ kk.toNat ≤ P.next)) s ?_ ?_
      · refine ⟨0, P.rate kk, now, last, bx, js, by omega, by omega, ?_, rfl, hbx, hjs, rfl, by rw [← hi2]; exact dr, fr, mor, fun hl => ?_⟩
        · simp (maxDischargeDepth := 9) -implicitDefEqProofs only [push_cast, reduceIte, Nat.reduceEqDiff, Nat.reduceAdd, Nat.reduceSub, Nat.reduceMul, Nat.reduceDiv, Nat.reduceMod, Nat.reduceLT, Nat.reduceLeDiff, Nat.reduceBEq, Nat.reduceBNe, reduceCtorEq, Int.reduceEq, Int.reduceNe, Int.reduceLT, Int.reduceLE, Int.reduceToNat, Int.reduceNeg, Int.reduceAdd, Int.reduceSub, Int.reduceMul, Int.reducePow, Nat.reducePow, Int.reduceBEq]
        · have e : (P.rate kk).next = if 0 < P.req then (if P.next < P.last + 1000000000 * 2 ^ (P.rate kk).exp.toNat then P.last + 1000000000 * 2 ^ (P.rate kk).exp.toNat else P.next) else P.next := rfl
          rcases dm.ls with ⟨h, _⟩ | ⟨_, h3, h4⟩
          · omega
          · rw [e, if_pos h4, h3]
            have := pow_mono er (by have := okr.f; omega)
            split <;> omega
      · rintro k aa h ws ⟨j, P, now, last, bx, js, rfl, hj, rfl, rfl, hbx, hjs, rfl, dm, hfl, hmo, hnext⟩
        by_cases hlt : j < s
        · have hlt' : (j : Int) < (s : Int) := by omega
          obtain ⟨z0, e0⟩ := bnd (r * 3 + j * 3) (by omega)
          obtain ⟨z1, e1⟩ := bnd (r * 3 + (j * 3 + 1)) (by omega)
          obtain ⟨z2, e2⟩ := bnd (r * 3 + (j * 3 + 2)) (by omega)
          have v1 : IntKind.i64.wrap ((j : Int) + 1) = (j : Int) + 1 := wr_i64 _ (by omega) (by omega)
          obtain ⟨P', now', last', ws', hc, dm', hw, fl, mo, hor⟩ := dem_call (js := js ++ [⟨.tip false, .ints .i64 [z0, z1, z2]⟩]) hg hbx (by simp [hjs, notOld_tip]) dm (by omega) z0 z1 z2
          unfold Hp at hc
          have ok' := dm'.ok
          have m' := dm'.ok.m
          have x1 : ¬ P'.exp < kk := by have := ok'.f; omega
          have x2 : ¬ (if most < kk then kk else most) < P'.exp := by have := ok'.f; rw [mo, hmo] at this; omega
          have pw := pow_mono (show kk ≤ P'.exp by omega) (by omega)
          have pw1 := pow_le (e := kk) (by omega) (by omega)
          have v4 := shl_sec (e := kk) (by omega) (by omega)
          have kn : ¬ kk < 0 := by omega
          have lw := dm.lw
          have lw' := dm'.lw
          have nw := dm.nw
          have nw' := dm'.nw
          have nx' : 0 ≤ last' → last' + 1000000000 * 2 ^ kk.toNat ≤ P'.next := by
            intro h0
            rcases hor with ⟨h1, h2⟩ | ⟨h1, h2, h3⟩
            · rw [h2, h1]; exact hnext (by omega)
            · rw [h3]; omega
          by_cases a1 : 0 ≤ last
          · by_cases a2 : last' = last
            · subst a2
              simp (maxDischargeDepth := 9) -implicitDefEqProofs only [push_cast, reduceIte, Nat.reduceEqDiff, Nat.reduceAdd, Nat.reduceSub, Nat.reduceMul, Nat.reduceDiv, Nat.reduceMod, Nat.reduceLT, Nat.reduceLeDiff, Nat.reduceBEq, Nat.reduceBNe, reduceCtorEq, Int.reduceEq, Int.reduceNe, Int.reduceLT, Int.reduceLE, Int.reduceToNat, Int.reduceNeg, Int.reduceAdd, Int.reduceSub, Int.reduceMul, Int.reducePow, Nat.reducePow, Int.reduceBEq, hlt, hlt', hq, q0, e0, e1, e2, v1, hc, hw, hg, hbx, hjs, isPo_blk, rdPo_blk, notOld_Po, c22, m', x1, x2, a1]
              refine loop_next (s - (j + 1)) (by omega) ⟨j + 1, P', now', _, bx, _, rfl, by omega, ?_, rfl, hbx, by simp [hjs, notOld_tip], rfl, (by rw [show r + (1 + (j + 1)) = r + 1 + j + 1 by omega]; exact dm'), by rw [fl]; exact hfl, by rw [mo, hmo], nx'⟩
              simp (maxDischargeDepth := 9) -implicitDefEqProofs only [push_cast, reduceIte, Nat.reduceEqDiff, Nat.reduceAdd, Nat.reduceSub, Nat.reduceMul, Nat.reduceDiv, Nat.reduceMod, Nat.reduceLT, Nat.reduceLeDiff, Nat.reduceBEq, Nat.reduceBNe, reduceCtorEq, Int.reduceEq, Int.reduceNe, Int.reduceLT, Int.reduceLE, Int.reduceToNat, Int.reduceNeg, Int.reduceAdd, Int.reduceSub, Int.reduceMul, Int.reducePow, Nat.reducePow, Int.reduceBEq]
            · have a3 : last + 1000000000 * 2 ^ kk.toNat ≤ last' := by
                rcases hor with ⟨h1, _⟩ | ⟨h1, h2, h3⟩
                · exact absurd h1 a2
                · have := hnext a1; omega
              have v5 : IntKind.i64.wrap (last' - last) = last' - last := wr_i64 _ (by omega) (by omega)
              have a4 : ¬ last' - last < 1000000000 * 2 ^ kk.toNat := by omega
              simp (maxDischargeDepth := 9) -implicitDefEqProofs only [push_cast, reduceIte, Nat.reduceEqDiff, Nat.reduceAdd, Nat.reduceSub, Nat.reduceMul, Nat.reduceDiv, Nat.reduceMod, Nat.reduceLT, Nat.reduceLeDiff, Nat.reduceBEq, Nat.reduceBNe, reduceCtorEq, Int.reduceEq, Int.reduceNe, Int.reduceLT, Int.reduceLE, Int.reduceToNat, Int.reduceNeg, Int.reduceAdd, Int.reduceSub, Int.reduceMul, Int.reducePow, Nat.reducePow, Int.reduceBEq, hlt, hlt', hq, q0, e0, e1, e2, v1, hc, hw, hg, hbx, hjs, isPo_blk, rdPo_blk, notOld_Po, c22, m', x1, x2, a1, a2, v5, a4, v4, kn]
              refine loop_next (s - (j + 1)) (by omega) ⟨j + 1, P', now', last', bx, _, rfl, by omega, ?_, rfl, hbx, by simp [hjs, notOld_tip], rfl, (by rw [show r + (1 + (j + 1)) = r + 1 + j + 1 by omega]; exact dm'), by rw [fl]; exact hfl, by rw [mo, hmo], nx'⟩
              simp (maxDischargeDepth := 9) -implicitDefEqProofs only [push_cast, reduceIte, Nat.reduceEqDiff, Nat.reduceAdd, Nat.reduceSub, Nat.reduceMul, Nat.reduceDiv, Nat.reduceMod, Nat.reduceLT, Nat.reduceLeDiff, Nat.reduceBEq, Nat.reduceBNe, reduceCtorEq, Int.reduceEq, Int.reduceNe, Int.reduceLT, Int.reduceLE, Int.reduceToNat, Int.reduceNeg, Int.reduceAdd, Int.reduceSub, Int.reduceMul, Int.reducePow, Nat.reducePow, Int.reduceBEq]
          · simp (maxDischargeDepth := 9) -implicitDefEqProofs only [push_cast, reduceIte, Nat.reduceEqDiff, Nat.reduceAdd, Nat.reduceSub, Nat.reduceMul, Nat.reduceDiv, Nat.reduceMod, Nat.reduceLT, Nat.reduceLeDiff, Nat.reduceBEq, Nat.reduceBNe, reduceCtorEq, Int.reduceEq, Int.reduceNe, Int.reduceLT, Int.reduceLE, Int.reduceToNat, Int.reduceNeg, Int.reduceAdd, Int.reduceSub, Int.reduceMul, Int.reducePow, Nat.reducePow, Int.reduceBEq, hlt, hlt', hq, q0, e0, e1, e2, v1, hc, hw, hg, hbx, hjs, isPo_blk, rdPo_blk, notOld_Po, c22, m', x1, x2, a1]
            refine loop_next (s - (j + 1)) (by omega) ⟨j + 1, P', now', last', bx, _, rfl, by omega, ?_, rfl, hbx, by simp [hjs, notOld_tip], rfl, (by rw [show r + (1 + (j + 1)) = r + 1 + j + 1 by omega]; exact dm'), by rw [fl]; exact hfl, by rw [mo, hmo], nx'⟩
            simp (maxDischargeDepth := 9) -implicitDefEqProofs only [push_cast, reduceIte, Nat.reduceEqDiff, Nat.reduceAdd, Nat.reduceSub, Nat.reduceMul, Nat.reduceDiv, Nat.reduceMod, Nat.reduceLT, Nat.reduceLeDiff, Nat.reduceBEq, Nat.reduceBNe, reduceCtorEq, Int.reduceEq, Int.reduceNe, Int.reduceLT, Int.reduceLE, Int.reduceToNat, Int.reduceNeg, Int.reduceAdd, Int.reduceSub, Int.reduceMul, Int.reducePow, Nat.reducePow, Int.reduceBEq]
        · have hnlt : ¬ (j : Int) < (s : Int) := by omega
          simp (maxDischargeDepth := 9) -implicitDefEqProofs only [push_cast, reduceIte, Nat.reduceEqDiff, Nat.reduceAdd, Nat.reduceSub, Nat.reduceMul, Nat.reduceDiv, Nat.reduceMod, Nat.reduceLT, Nat.reduceLeDiff, Nat.reduceBEq, Nat.reduceBNe, reduceCtorEq, Int.reduceEq, Int.reduceNe, Int.reduceLT, Int.reduceLE, Int.reduceToNat, Int.reduceNeg, Int.reduceAdd, Int.reduceSub, Int.reduceMul, Int.reducePow, Nat.reducePow, Int.reduceBEq, hnlt]

set_option maxHeartbeats 4000000 in
theorem demand_nil (g : AHeap) (hg : Good g) (a b c d : Int) (hd : 0 ≤ d ∧ d ≤ 255) :
    Wp (xbody (W C) M3 [.agg [.int .i64 a, .int .i64 b, .int .i64 c], .int .u8 d, .nils] g) fun r => r.1 = .bool true := by
  have u1 := um a 7 (by omega) (by omega)
  generalize h1 : IntKind.i64.wrap ((IntKind.u64.wrap a).tmod 7) = m1 at u1
  obtain ⟨least, hl⟩ : ∃ l, 4 + m1 = l := ⟨_, rfl⟩
  have w1 : IntKind.i64.wrap (4 + m1) = least := by rw [← hl]; exact wr_i64 _ (by omega) (by omega)
  have w2 : IntKind.i64.wrap (11 - least) = 11 - least := wr_i64 _ (by omega) (by omega)
  have w3 : IntKind.u64.wrap (11 - least) = 11 - least := wr_u64 _ (by omega) (by omega)
  have n3 : ¬ (11 - least) = 0 := by omega
  have u2 := um b (11 - least) (by omega) (by omega)
  generalize h2 : IntKind.i64.wrap ((IntKind.u64.wrap b).tmod (11 - least)) = m2 at u2
  obtain ⟨most, hm⟩ : ∃ l, least + m2 = l := ⟨_, rfl⟩
  have w4 : IntKind.i64.wrap (least + m2) = most := by rw [← hm]; exact wr_i64 _ (by omega) (by omega)
  have l1 : 4 ≤ least := by omega
  have l2 : least ≤ most := by omega
  have l3 : most ≤ 10 := by omega
  have t1 : IntKind.i64.wrap (Int.tdiv 0 2) = 0 := by decide
  have w8 : d.tmod 7 = d % 7 := Int.tmod_eq_emod_of_nonneg hd.1
  have w9 : IntKind.i64.wrap (d % 7) = d % 7 := wr_i64 _ (by omega) (by omega)
  have w10 : IntKind.i64.wrap (4 + d % 7) = 4 + d % 7 := wr_i64 _ (by omega) (by omega)
  obtain ⟨kk, hkk⟩ : ∃ l, 4 + d % 7 = l := ⟨_, rfl⟩
  rw [hkk] at w10
  have k1 : 4 ≤ kk := by omega
  have k2 : kk ≤ 10 := by omega
  have ok : (Po.new least most 0).ok := by constructor <;> simp [Po.new] <;> omega
  have st : (Po.new least most 0).stopped = false := rfl
  have okr := rate_ok ok k1 k2
  have mr := okr.m
  have fr : kk ≤ ((Po.new least most 0).rate kk).floor := by show kk ≤ (if least < kk then kk else least); split <;> omega
  have er : kk ≤ ((Po.new least most 0).rate kk).exp := by have := okr.f; omega
  have fr' : ¬ ((Po.new least most 0).rate kk).floor < kk := by omega
  have er' : ¬ ((Po.new least most 0).rate kk).exp < kk := by omega
  simp (maxDischargeDepth := 9) -implicitDefEqProofs only [push_cast, reduceIte, Nat.reduceEqDiff, Nat.reduceAdd, Nat.reduceSub, Nat.reduceMul, Nat.reduceDiv, Nat.reduceMod, Nat.reduceLT, Nat.reduceLeDiff, Nat.reduceBEq, Nat.reduceBNe, reduceCtorEq, Int.reduceEq, Int.reduceNe, Int.reduceLT, Int.reduceLE, Int.reduceToNat, Int.reduceNeg, Int.reduceAdd, Int.reduceSub, Int.reduceMul, Int.reducePow, Nat.reducePow, Int.reduceBEq, M3, h1, w1, w2, w3, n3, h2, w4, t1, c15, l1, l2, l3, c16]
  refine wp_kRes (wp_kSeq (wp_kBlock ?_))
  rw [w_loop, xiter_unfold]
  simp (maxDischargeDepth := 9) -implicitDefEqProofs only [push_cast, reduceIte, Nat.reduceEqDiff, Nat.reduceAdd, Nat.reduceSub, Nat.reduceMul, Nat.reduceDiv, Nat.reduceMod, Nat.reduceLT, Nat.reduceLeDiff, Nat.reduceBEq, Nat.reduceBNe, reduceCtorEq, Int.reduceEq, Int.reduceNe, Int.reduceLT, Int.reduceLE, Int.reduceToNat, Int.reduceNeg, Int.reduceAdd, Int.reduceSub, Int.reduceMul, Int.reducePow, Nat.reducePow, Int.reduceBEq, w8, w9, hkk, w10, hg, isPo_blk, rdPo_blk, notOld_Po, c24, c22, c23, ok, st, mr, k1, k2, fr', er']
  refine wp_kSeq (wp_kBlock ?_)
  rw [w_loop, xiter_unfold]
  simp (maxDischargeDepth := 9) -implicitDefEqProofs only [push_cast, reduceIte, Nat.reduceEqDiff, Nat.reduceAdd, Nat.reduceSub, Nat.reduceMul, Nat.reduceDiv, Nat.reduceMod, Nat.reduceLT, Nat.reduceLeDiff, Nat.reduceBEq, Nat.reduceBNe, reduceCtorEq, Int.reduceEq, Int.reduceNe, Int.reduceLT, Int.reduceLE, Int.reduceToNat, Int.reduceNeg, Int.reduceAdd, Int.reduceSub, Int.reduceMul, Int.reducePow, Nat.reducePow, Int.reduceBEq]

theorem demand_law (js : AHeap) (avs : List AV) (hx : Ext js) (ht : TyA (C.gl ++ js) [.agg [.i .i64, .i .i64, .i .i64], .one (.i .u8), .one (.sl [.i .i64, .i .i64, .i .i64])] avs) : ∃ h' ws, W C 3 avs (C.gl ++ js) = some (.bool true, h', ws) := by
  simp only [TyA] at ht
  obtain ⟨cs, vs, rfl, h1, v2, _, rfl, h2, v, _, rfl, h3, rfl⟩ := ht
  simp only [TyL, Ty] at h1 h2
  obtain ⟨_, _, rfl, ⟨a, rfl, _⟩, _, _, rfl, ⟨b, rfl, _⟩, _, _, rfl, ⟨c, rfl, _⟩, rfl⟩ := h1
  obtain ⟨d, rfl, hd⟩ := h2
  have hd' : 0 ≤ d ∧ d ≤ 255 := hd
  obtain ⟨es, h4, h5⟩ := Ty_sl h3
  rcases h4 with ⟨rfl, rfl⟩ | ⟨q, cap, rfl, g1, g2, g3, g4⟩
  · exact W_law (m := M3) (fun _ => rfl) rfl (demand_nil _ hx.good a b c d hd') fun _ => demand_nil _ good_nil a b c d hd'
  · refine W_law (m := M3) (fun _ => rfl) rfl ?_ fun h0 => by simp [AV.lts, AV.lt] at h0
    have hl := flat_len (l := [CK.i .i64, .i .i64, .i .i64]) fun e he => (TyL_lt (h5 e he)).2.2
    refine demand_at _ hx.good a b c d hd' q es.length cap (es.flatten.map toI) g1 (by unfold maxLen at g2; omega) g3 g4 ?_
    rw [List.length_map, hl]; simp; omega
theorem demand_kinds : aksOf X.P 20 [23, 5, 24] = some [.agg [.i .i64, .i .i64, .i .i64], .one (.i .u8), .one (.sl [.i .i64, .i .i64, .i .i64])] := by kernel_rfl
end Go.Proofs.YtimlhgpjmjmjhaaW.AI.B
