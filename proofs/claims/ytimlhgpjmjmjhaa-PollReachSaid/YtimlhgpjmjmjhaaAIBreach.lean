import Derived.Test.YtimlhgpjmjmjhaaAIBpoll
namespace Go.Proofs.YtimlhgpjmjmjhaaW.AI.B
open Go Go.Proofs.YtimlhgpjmjmjhaaW.AI
set_option maxRecDepth 100000
set_option linter.unusedSimpArgs false
set_option linter.unusedVariables false

theorem sent_ok {P : Po} (ok : P.ok) {now : Int} (h0 : 0 ≤ now) (h1 : now ≤ 4611686018427387904) (hq : P.req + 1 < 1000000000) : (P.sent now).ok := by
  have := ok.f; have := ok.r; have := ok.q; have := ok.s; have := ok.l
  constructor <;> simp only [Po.sent, Po.quick] <;> (try split) <;> first | exact ok.m | ((try dsimp only); omega)
theorem got_ok {P : Po} (ok : P.ok) (g : Bool) : (P.got g).ok := by
  have := ok.f; have := ok.r; have := ok.q; have := ok.s; have := ok.l
  constructor <;> simp only [Po.got] <;> (repeat' split) <;> first | exact ok.m | ((try dsimp only); omega)

theorem got_reg (P : Po) (g : Bool) : (P.got g).reg = if P.reg % 2 = 0 then P.reg + 1 else P.reg := by
  cases g <;> by_cases h : P.steady + 1 = 8 <;> simp [Po.got, h]
theorem got_req (P : Po) (g : Bool) : (P.got g).req = P.req := by
  cases g <;> by_cases h : P.steady + 1 = 8 <;> simp [Po.got, h]
theorem got_stopped (P : Po) (g : Bool) : (P.got g).stopped = P.stopped := by
  cases g <;> by_cases h : P.steady + 1 = 8 <;> simp [Po.got, h]
theorem got_next (P : Po) (g : Bool) : (P.got g).next = P.next := by
  cases g <;> by_cases h : P.steady + 1 = 8 <;> simp [Po.got, h]
theorem got_floor (P : Po) (g : Bool) : (P.got g).floor = P.floor := by
  cases g <;> by_cases h : P.steady + 1 = 8 <;> simp [Po.got, h]
theorem got_most (P : Po) (g : Bool) : (P.got g).most = P.most := by
  cases g <;> by_cases h : P.steady + 1 = 8 <;> simp [Po.got, h]
theorem got_last (P : Po) (g : Bool) : (P.got g).last = P.last := by
  cases g <;> by_cases h : P.steady + 1 = 8 <;> simp [Po.got, h]
theorem sent_stopped (P : Po) (n : Int) : (P.sent n).stopped = P.stopped := by
  simp only [Po.sent, Po.quick]; split <;> rfl
theorem sent_floor (P : Po) (n : Int) : (P.sent n).floor = P.floor := by
  simp only [Po.sent, Po.quick]; split <;> rfl
theorem sent_most (P : Po) (n : Int) : (P.sent n).most = P.most := by
  simp only [Po.sent, Po.quick]; split <;> rfl

theorem reach_at (g : AHeap) (hg : Good g) (sv : AV) (l : List Bool) (hs : SlAt g [.b] sv (l.map fun x => [AV.bool x])) : Wp (xbody (W C) M5 [sv] g) fun r => r.1 = .bool true := by
  have hsl : slen sv = some l.length := by simpa using hs.len
  have hna := na_slen hsl
  have hle : l.length ≤ 9223372036854775807 := by simpa using hs.le
  simp (maxDischargeDepth := 9) -implicitDefEqProofs only [push_cast, reduceIte, Nat.reduceEqDiff, Nat.reduceAdd, Nat.reduceSub, Nat.reduceMul, Nat.reduceDiv, Nat.reduceMod, Nat.reduceLT, Nat.reduceLeDiff, Nat.reduceBEq, Nat.reduceBNe, reduceCtorEq, Int.reduceEq, Int.reduceNe, Int.reduceLT, Int.reduceLE, Int.reduceToNat, Int.reduceNeg, Int.reduceAdd, Int.reduceSub, Int.reduceMul, Int.reducePow, Nat.reducePow, Int.reduceBEq, M5, c16, c15, hsl, hna]
  refine wp_kRes (wp_kSeq (wp_kBlock ?_))
  refine wp_loop (fun k a h ws => ∃ (i : Nat) (P : Po), k = l.length - i ∧ i ≤ l.length ∧ i ≤ 40 ∧ a = [(3, .ptr g.length 0), (5, .int .u8 P.reg), (18, sv), (19, .int .i64 (l.length : Int)), (20, .int .i64 (i : Int))] ∧
      h = g ++ [P.blk] ∧ ws = [] ∧ P.ok ∧ P.stopped = false ∧ P.req ≤ i) l.length ?_ ?_
  · refine ⟨0, Po.new 4 4 0, by omega, by omega, by omega, ?_, rfl, rfl, ?_, rfl, ?_⟩
    · simp (maxDischargeDepth := 9) -implicitDefEqProofs only [push_cast, reduceIte, Nat.reduceEqDiff, Nat.reduceAdd, Nat.reduceSub, Nat.reduceMul, Nat.reduceDiv, Nat.reduceMod, Nat.reduceLT, Nat.reduceLeDiff, Nat.reduceBEq, Nat.reduceBNe, reduceCtorEq, Int.reduceEq, Int.reduceNe, Int.reduceLT, Int.reduceLE, Int.reduceToNat, Int.reduceNeg, Int.reduceAdd, Int.reduceSub, Int.reduceMul, Int.reducePow, Nat.reducePow, Int.reduceBEq, Po.new, hna]
    · constructor <;> simp [Po.new]
    · simp [Po.new]
  · rintro k a h ws ⟨i, P, rfl, hi, hi', rfl, rfl, rfl, ok, hst, hq⟩
    by_cases hlt : i < l.length
    · obtain ⟨b, c, rfl, h1, h2, hb, hbl⟩ : ∃ b c, sv = .sl b 0 l.length c ∧ l.length ≤ c ∧ c ≤ maxLen ∧ b < g.length ∧ g[b]? = some ⟨.ext, .vals (l.map AV.bool)⟩ := by
        rcases hs with ⟨_, h1⟩ | ⟨b, c, h1, h2, h3, h4, h5⟩
        · simp at h1; subst h1; simp at hlt
        · have e : (l.map fun x => [AV.bool x]).flatten = l.map AV.bool := by
            clear hsl hle hlt h1 h2 h5 hi
            induction l with
            | nil => rfl
            | cons x l ih => simp [ih]
          simp only [List.length_map] at h1 h2
          rw [e] at h5
          exact ⟨b, c, h1, h2, h3, h4, h5⟩
      have hbi : l[i]? = some l[i] := List.getElem?_eq_getElem hlt
      by_cases h40 : i = 40
      · subst h40
        have hlt' : (40 : Int) < (l.length : Int) := by omega
        simp (maxDischargeDepth := 9) -implicitDefEqProofs only [push_cast, reduceIte, Nat.reduceEqDiff, Nat.reduceAdd, Nat.reduceSub, Nat.reduceMul, Nat.reduceDiv, Nat.reduceMod, Nat.reduceLT, Nat.reduceLeDiff, Nat.reduceBEq, Nat.reduceBNe, reduceCtorEq, Int.reduceEq, Int.reduceNe, Int.reduceLT, Int.reduceLE, Int.reduceToNat, Int.reduceNeg, Int.reduceAdd, Int.reduceSub, Int.reduceMul, Int.reducePow, Nat.reducePow, Int.reduceBEq, hlt, hlt', hbi, hb, hbl]
        refine wp_some (loop_exit ?_)
        refine ⟨_, rfl, ?_⟩
        simp (maxDischargeDepth := 9) -implicitDefEqProofs only [push_cast, reduceIte, Nat.reduceEqDiff, Nat.reduceAdd, Nat.reduceSub, Nat.reduceMul, Nat.reduceDiv, Nat.reduceMod, Nat.reduceLT, Nat.reduceLeDiff, Nat.reduceBEq, Nat.reduceBNe, reduceCtorEq, Int.reduceEq, Int.reduceNe, Int.reduceLT, Int.reduceLE, Int.reduceToNat, Int.reduceNeg, Int.reduceAdd, Int.reduceSub, Int.reduceMul, Int.reducePow, Nat.reducePow, Int.reduceBEq]
        exact wp_some (wp_some rfl)
      · have hlt' : (i : Int) < (l.length : Int) := by omega
        have h40' : ¬ (i : Int) = 40 := by omega
        have r0 : (0 : Int) ≤ (i : Int) := by omega
        have r1 : (i : Int) ≤ 4611686018427387904 := by omega
        have ok1 := sent_ok ok r0 r1 (by omega)
        have w1 : IntKind.i64.wrap ((i : Int) + 1) = (i : Int) + 1 := wr_i64 _ (by omega) (by omega)
        have e4 := shl1 P.reg ok.r.1 ok.r.2
        have e5 := or1 (P.reg * 2 % 256) (by omega) (by omega)
        have s1 : (P.sent i).reg = P.reg * 2 % 256 := rfl
        have s2 : (P.sent i).stopped = false := by rw [sent_stopped, hst]
        have s3 : (P.sent i).req = P.req + 1 := rfl
        have s4 : ∀ g, ((P.sent i).got g).reg = if P.reg * 2 % 256 % 2 = 0 then P.reg * 2 % 256 + 1 else P.reg * 2 % 256 := by intro g; rw [got_reg, s1]
        have s5 : ∀ g, ((P.sent i).got g).req = P.req + 1 := by intro g; rw [got_req, s3]
        have s6 : ∀ g, ((P.sent i).got g).stopped = false := by intro g; rw [got_stopped, s2]
        have ok2 := fun g => got_ok ok1 g
        have m1 := ok1.m
        have m2 := fun g => (ok2 g).m
        cases hbv : l[i] with
        | true =>
          simp (maxDischargeDepth := 9) -implicitDefEqProofs only [push_cast, reduceIte, Nat.reduceEqDiff, Nat.reduceAdd, Nat.reduceSub, Nat.reduceMul, Nat.reduceDiv, Nat.reduceMod, Nat.reduceLT, Nat.reduceLeDiff, Nat.reduceBEq, Nat.reduceBNe, reduceCtorEq, Int.reduceEq, Int.reduceNe, Int.reduceLT, Int.reduceLE, Int.reduceToNat, Int.reduceNeg, Int.reduceAdd, Int.reduceSub, Int.reduceMul, Int.reducePow, Nat.reducePow, Int.reduceBEq, hlt, hlt', hbi, hb, hbl, h40', hbv, c21, c18, c25, isPo_blk, rdPo_blk, notOld_Po, hg, ok, hst, r0, r1, ok1, ok2, w1, e4, e5, s1, s2, s3, s4, s5, s6, m1, m2]
          refine wp_some (loop_next (l.length - (i + 1)) (by omega) ⟨i + 1, _, rfl, by omega, by omega, ?_, rfl, rfl, ok2 _, s6 _, by rw [s5]; omega⟩)
          simp (maxDischargeDepth := 9) -implicitDefEqProofs only [push_cast, reduceIte, Nat.reduceEqDiff, Nat.reduceAdd, Nat.reduceSub, Nat.reduceMul, Nat.reduceDiv, Nat.reduceMod, Nat.reduceLT, Nat.reduceLeDiff, Nat.reduceBEq, Nat.reduceBNe, reduceCtorEq, Int.reduceEq, Int.reduceNe, Int.reduceLT, Int.reduceLE, Int.reduceToNat, Int.reduceNeg, Int.reduceAdd, Int.reduceSub, Int.reduceMul, Int.reducePow, Nat.reducePow, Int.reduceBEq, s4]
        | false =>
          simp (maxDischargeDepth := 9) -implicitDefEqProofs only [push_cast, reduceIte, Nat.reduceEqDiff, Nat.reduceAdd, Nat.reduceSub, Nat.reduceMul, Nat.reduceDiv, Nat.reduceMod, Nat.reduceLT, Nat.reduceLeDiff, Nat.reduceBEq, Nat.reduceBNe, reduceCtorEq, Int.reduceEq, Int.reduceNe, Int.reduceLT, Int.reduceLE, Int.reduceToNat, Int.reduceNeg, Int.reduceAdd, Int.reduceSub, Int.reduceMul, Int.reducePow, Nat.reducePow, Int.reduceBEq, hlt, hlt', hbi, hb, hbl, h40', hbv, c21, c18, c25, isPo_blk, rdPo_blk, notOld_Po, hg, ok, hst, r0, r1, ok1, w1, e4, e5, s1, s2, s3, m1]
          refine wp_some (loop_next (l.length - (i + 1)) (by omega) ⟨i + 1, _, rfl, by omega, by omega, ?_, rfl, rfl, ok1, s2, by rw [s3]; omega⟩)
          simp (maxDischargeDepth := 9) -implicitDefEqProofs only [push_cast, reduceIte, Nat.reduceEqDiff, Nat.reduceAdd, Nat.reduceSub, Nat.reduceMul, Nat.reduceDiv, Nat.reduceMod, Nat.reduceLT, Nat.reduceLeDiff, Nat.reduceBEq, Nat.reduceBNe, reduceCtorEq, Int.reduceEq, Int.reduceNe, Int.reduceLT, Int.reduceLE, Int.reduceToNat, Int.reduceNeg, Int.reduceAdd, Int.reduceSub, Int.reduceMul, Int.reducePow, Nat.reducePow, Int.reduceBEq, s1]
    · have hi2 : i = l.length := by omega
      subst hi2
      simp (maxDischargeDepth := 9) -implicitDefEqProofs only [push_cast, reduceIte, Nat.reduceEqDiff, Nat.reduceAdd, Nat.reduceSub, Nat.reduceMul, Nat.reduceDiv, Nat.reduceMod, Nat.reduceLT, Nat.reduceLeDiff, Nat.reduceBEq, Nat.reduceBNe, reduceCtorEq, Int.reduceEq, Int.reduceNe, Int.reduceLT, Int.reduceLE, Int.reduceToNat, Int.reduceNeg, Int.reduceAdd, Int.reduceSub, Int.reduceMul, Int.reducePow, Nat.reducePow, Int.reduceBEq, hna]
      refine wp_some (loop_exit ?_)
      refine ⟨_, rfl, ?_⟩
      simp (maxDischargeDepth := 9) -implicitDefEqProofs only [push_cast, reduceIte, Nat.reduceEqDiff, Nat.reduceAdd, Nat.reduceSub, Nat.reduceMul, Nat.reduceDiv, Nat.reduceMod, Nat.reduceLT, Nat.reduceLeDiff, Nat.reduceBEq, Nat.reduceBNe, reduceCtorEq, Int.reduceEq, Int.reduceNe, Int.reduceLT, Int.reduceLE, Int.reduceToNat, Int.reduceNeg, Int.reduceAdd, Int.reduceSub, Int.reduceMul, Int.reducePow, Nat.reducePow, Int.reduceBEq]
      exact wp_some (wp_some rfl)

theorem bools {h : AHeap} : ∀ {es : List (List AV)}, (∀ e ∈ es, TyL h [.b] e) → ∃ l : List Bool, es = l.map fun x => [AV.bool x]
  | [], _ => ⟨[], rfl⟩
  | e :: es, he => by
    obtain ⟨l, rfl⟩ := bools fun e' h' => he e' (List.mem_cons_of_mem _ h')
    have := he e List.mem_cons_self
    simp only [TyL, Ty] at this
    obtain ⟨v, vs, rfl, ⟨x, rfl⟩, rfl⟩ := this
    exact ⟨x :: l, rfl⟩

theorem reach_law (js : AHeap) (avs : List AV) (hx : Ext js) (ht : TyA (C.gl ++ js) [.one (.sl [.b])] avs) : ∃ h' ws, W C 5 avs (C.gl ++ js) = some (.bool true, h', ws) := by
  simp only [TyA] at ht
  obtain ⟨v, vs, rfl, ht, rfl⟩ := ht
  obtain ⟨es, h1, h2⟩ := Ty_sl ht
  obtain ⟨l, rfl⟩ := bools h2
  refine W_law (m := M5) (fun _ => rfl) rfl (reach_at _ hx.good v l h1) fun h0 => ?_
  rcases h1 with ⟨rfl, h1⟩ | ⟨b, c, rfl, _⟩
  · simp at h1; subst h1
    exact reach_at _ good_nil .nils [] (Or.inl ⟨rfl, rfl⟩)
  · simp [AV.lts, AV.lt] at h0
theorem reach_kinds : aksOf X.P 20 [44] = some [.one (.sl [.b])] := by kernel_rfl
end Go.Proofs.YtimlhgpjmjmjhaaW.AI.B
