import Derived.Test.YtimlhgpjmjmjhaaAIBpfacts
namespace Go.Proofs.YtimlhgpjmjmjhaaW.AI.B
open Go Go.Proofs.YtimlhgpjmjmjhaaW.AI
set_option maxRecDepth 100000
set_option linter.unusedSimpArgs false
set_option linter.unusedVariables false

/-- The register behind so many answered requests. -/
def regN (i : Nat) : Int := 2 ^ min i 8 - 1
theorem regN_next (i : Nat) : (if regN i * 2 % 256 % 2 = 0 then regN i * 2 % 256 + 1 else regN i * 2 % 256) = regN (i + 1) := by
  unfold regN
  by_cases h : i < 8
  · have : i = 0 ∨ i = 1 ∨ i = 2 ∨ i = 3 ∨ i = 4 ∨ i = 5 ∨ i = 6 ∨ i = 7 := by omega
    rcases this with rfl | rfl | rfl | rfl | rfl | rfl | rfl | rfl <;> decide
  · have h1 : min i 8 = 8 := by omega
    have h2 : min (i + 1) 8 = 8 := by omega
    rw [h1, h2]; decide
theorem regN_odd (i : Nat) (h : 0 < i) : regN i % 2 = 1 := by
  unfold regN
  by_cases h8 : i < 8
  · have : i = 1 ∨ i = 2 ∨ i = 3 ∨ i = 4 ∨ i = 5 ∨ i = 6 ∨ i = 7 := by omega
    rcases this with rfl | rfl | rfl | rfl | rfl | rfl | rfl <;> decide
  · have h1 : min i 8 = 8 := by omega
    rw [h1]; decide
theorem regN_rng (i : Nat) : 0 ≤ regN i ∧ regN i < 256 := by
  unfold regN
  by_cases h8 : i < 8
  · have : i = 0 ∨ i = 1 ∨ i = 2 ∨ i = 3 ∨ i = 4 ∨ i = 5 ∨ i = 6 ∨ i = 7 := by omega
    rcases this with rfl | rfl | rfl | rfl | rfl | rfl | rfl | rfl <;> decide
  · have h1 : min i 8 = 8 := by omega
    rw [h1]; decide

theorem and1 (r : Int) (h0 : 0 ≤ r) (h1 : r < 256) : abits .and .u8 r 1 = r % 2 := by
  have : ∀ n : Fin 256, abits .and .u8 (n.val : Int) 1 = (n.val : Int) % 2 := by decide +kernel
  have := this ⟨r.toNat, by omega⟩
  simpa [Int.toNat_of_nonneg h0] using this

/-- How it stands behind i requests, each answered well. -/
structure Sil1 (least most : Int) (i : Nat) (P : Po) : Prop where
  ok : P.ok
  st : P.stopped = false
  fl : P.floor = least
  mo : P.most = most
  ex : P.exp = if least + (i : Int) / 8 < most then least + (i : Int) / 8 else most
  sd : P.steady = (i : Int) % 8
  rg : P.reg = regN i
  rq : P.req = i
  nx : 0 ≤ P.next ∧ P.next ≤ (i : Int) * 1099511627776

theorem Sil1.step {least most : Int} {i : Nat} {P : Po} (s : Sil1 least most i P) (hi : i < 200) (hl : 4 ≤ least) (hm : least ≤ most) (h10 : most ≤ 10) :
    (P.sent P.next).ok ∧ ((P.sent P.next).got true).ok ∧ Sil1 least most (i + 1) ((P.sent P.next).got true) ∧ (P.sent P.next).stopped = false := by
  have hq := s.rq
  have hn := s.nx
  have ok1 := sent_ok s.ok hn.1 (by omega) (by omega)
  have ok2 := got_ok ok1 true
  have q : ¬ (3 ≤ P.req ∧ P.reg % 8 = 0) := by
    rintro ⟨a, b⟩
    have := regN_odd i (by omega)
    rw [s.rg] at b; omega
  have e1 : (P.sent P.next).exp = P.exp := by rw [sent_exp, if_neg q]
  have e2 : (P.sent P.next).steady = P.steady := by rw [sent_steady, if_neg q]
  have pw := pow_le (e := P.exp) (by have := s.ok.f; omega) (by have := s.ok.f; omega)
  refine ⟨ok1, ok2, ⟨ok2, by rw [got_stopped, sent_stopped, s.st], by rw [got_floor, sent_floor, s.fl], by rw [got_most, sent_most, s.mo], ?_, ?_, by rw [got_reg, sent_reg, s.rg, regN_next], by rw [got_req, sent_req, hq]; omega, ?_⟩, by rw [sent_stopped, s.st]⟩
  · have hmo : (P.sent P.next).most = most := by rw [sent_most, s.mo]
    simp only [Po.got, if_true, e2, e1, hmo]
    have hs := s.sd
    have hx := s.ex
    by_cases h7 : P.steady + 1 = 8
    · rw [if_pos h7]
      simp only
      have : ((i : Int) + 1) / 8 = (i : Int) / 8 + 1 := by omega
      push_cast
      rw [this, hx]
      split <;> (repeat' split) <;> omega
    · rw [if_neg h7]
      simp only
      have : ((i : Int) + 1) / 8 = (i : Int) / 8 := by omega
      push_cast
      rw [this]; first | exact hx | (rw [e1]; exact hx)
  · simp only [Po.got, if_true, e2]
    have hs := s.sd
    by_cases h7 : P.steady + 1 = 8
    · rw [if_pos h7]; simp only; push_cast; omega
    · rw [if_neg h7]; simp only; push_cast; omega
  · rw [got_next, sent_next, e1]; push_cast; omega

/-- How it stands behind i requests without an answer. -/
structure Sil2 (least : Int) (many i : Nat) (P : Po) : Prop where
  ok : P.ok
  st : P.stopped = false
  fl : P.floor = least
  ex : 4 ≤ i → P.exp = least
  ex0 : many = 0 → P.exp = least
  rg : P.reg = regN many * 2 ^ i % 256
  rq : P.req = many + i
  nx : 0 ≤ P.next ∧ P.next ≤ ((many : Int) + i) * 1099511627776

theorem Sil2.step {least : Int} {many i : Nat} {P : Po} (s : Sil2 least many i P) (hm : many ≤ 200) (hi : i < 12) (hl : 4 ≤ least) (h10 : least ≤ 10) :
    (P.sent P.next).ok ∧ Sil2 least many (i + 1) (P.sent P.next) ∧ (3 ≤ i → (P.sent P.next).next - P.next = 1000000000 * 2 ^ least.toNat) ∧ (8 ≤ i → (P.sent P.next).reg = 0) ∧ (i < 7 → 8 ≤ many → (P.sent P.next).reg ≠ 0) := by
  have hq := s.rq
  have hn := s.nx
  have ok1 := sent_ok s.ok hn.1 (by omega) (by omega)
  have hf := ok1.f
  have pw := pow_le (e := (P.sent P.next).exp) (by omega) (by omega)
  have rg1 : (P.sent P.next).reg = regN many * 2 ^ (i + 1) % 256 := by
    rw [sent_reg, s.rg, Int.pow_succ, ← Int.mul_assoc]; generalize regN many * 2 ^ i = y; omega
  have ex1 : 3 ≤ i → (P.sent P.next).exp = least := by
    intro h3
    rw [sent_exp]
    by_cases h0 : 3 ≤ P.req ∧ P.reg % 8 = 0
    · rw [if_pos h0, s.fl]
    · exfalso
      refine h0 ⟨by omega, ?_⟩
      rw [s.rg]
      obtain ⟨j, rfl⟩ : ∃ j, i = j + 3 := ⟨i - 3, by omega⟩
      have : regN many * 2 ^ (j + 3) = 8 * (regN many * 2 ^ j) := by rw [Int.pow_add]; generalize (2 : Int) ^ j = y; generalize regN many = x; rw [show (2 : Int) ^ 3 = 8 from rfl, ← Int.mul_assoc, Int.mul_comm]
      rw [this]; omega
  refine ⟨ok1, ⟨ok1, by rw [sent_stopped, s.st], by rw [sent_floor, s.fl], fun h4 => ex1 (by omega), fun h0 => ?_, rg1, by rw [sent_req, hq]; push_cast; omega, ?_⟩, fun h3 => ?_, fun h8 => ?_, fun h7 h8 => ?_⟩
  · rw [sent_exp]; split
    · exact s.fl
    · exact s.ex0 h0
  · rw [sent_next]; push_cast; omega
  · rw [sent_next, ex1 h3]; omega
  · rw [rg1]
    obtain ⟨j, rfl⟩ : ∃ j, i = j + 8 := ⟨i - 8, by omega⟩
    have : regN many * 2 ^ (j + 8 + 1) = 256 * (regN many * 2 ^ j * 2) := by
      rw [Int.pow_succ, Int.pow_add]; generalize (2 : Int) ^ j = y; generalize regN many = x
      rw [show (2 : Int) ^ 8 = 256 from rfl, ← Int.mul_assoc, ← Int.mul_assoc]
      rw [show x * y * 256 = 256 * (x * y) from Int.mul_comm _ _, Int.mul_assoc]
    rw [this]; omega
  · rw [rg1]
    have : regN many = 255 := by unfold regN; have : min many 8 = 8 := by omega
                                 rw [this]; rfl
    rw [this]
    have : i = 0 ∨ i = 1 ∨ i = 2 ∨ i = 3 ∨ i = 4 ∨ i = 5 ∨ i = 6 := by omega
    rcases this with rfl | rfl | rfl | rfl | rfl | rfl | rfl <;> decide

set_option maxHeartbeats 4000000 in
theorem silent_at (g : AHeap) (hg : Good g) (a b c d : Int) (hd : 0 ≤ d ∧ d ≤ 255) : Wp (xbody (W C) M4 [.agg [.int .i64 a, .int .i64 b, .int .i64 c], .int .u8 d] g) fun r => r.1 = .bool true := by
  have u1 := um a 7 (by omega) (by omega)
  generalize h1 : IntKind.i64.wrap ((IntKind.u64.wrap a).tmod 7) = m1 at u1
  obtain ⟨least, hl⟩ : ∃ l, 4 + m1 = l := ⟨_, rfl⟩
  have w1 : IntKind.i64.wrap (4 + m1) = least := by rw [← hl]; exact wr_i64 _ (by omega) (by omega)
  have w2 : IntKind.i64.wrap (11 - least) = 11 - least := wr_i64 _ (by omega) (by omega)
  have w3 : IntKind.u64.wrap (11 - least) = 11 - least := wr_u64 _ (by omega) (by omega)
  have n3 : ¬ (11 - least) = 0 := by omega
  have u2 := um b (11 - least) (by omega) (by omega)
  generalize h2 : IntKind.i64.wrap ((IntKind.u64.wrap b).tmod (11 - least)) = m2 at u2
  obtain ⟨most, hm⟩ : ∃ l, least + m2 = l := ⟨_, rfl⟩
  have w4 : IntKind.i64.wrap (least + m2) = most := by rw [← hm]; exact wr_i64 _ (by omega) (by omega)
  have l1 : 4 ≤ least := by omega
  have l2 : least ≤ most := by omega
  have l3 : most ≤ 10 := by omega
  have w5 : IntKind.i64.wrap d = d := wr_i64 _ (by omega) (by omega)
  have w6 : d.tmod 201 = d % 201 := Int.tmod_eq_emod_of_nonneg hd.1
  obtain ⟨many, hmany⟩ : ∃ m : Nat, (m : Int) = d % 201 := ⟨(d % 201).toNat, by omega⟩
  have hm2 : many ≤ 200 := by omega
  rw [← hmany] at w6
  simp (maxDischargeDepth := 9) -implicitDefEqProofs only [push_cast, reduceIte, Nat.reduceEqDiff, Nat.reduceAdd, Nat.reduceSub, Nat.reduceMul, Nat.reduceDiv, Nat.reduceMod, Nat.reduceLT, Nat.reduceLeDiff, Nat.reduceBEq, Nat.reduceBNe, reduceCtorEq, Int.reduceEq, Int.reduceNe, Int.reduceLT, Int.reduceLE, Int.reduceToNat, Int.reduceNeg, Int.reduceAdd, Int.reduceSub, Int.reduceMul, Int.reducePow, Nat.reducePow, Int.reduceBEq, M4, h1, w1, w2, w3, n3, h2, w4, c15, l1, l2, l3, c16, w5, w6]
  refine wp_kRes (wp_kSeq (wp_kBlock ?_))
  refine wp_loop (fun k a h ws => ∃ (i : Nat) (P : Po), k = many - i ∧ i ≤ many ∧ a = [(5, .int .i64 least), (6, .int .i64 most), (7, .ptr (g.length + 1) 0), (9, .int .i64 (many : Int)), (49, .int .i64 (many : Int)), (50, .int .i64 (i : Int))] ∧
      (∃ bx, h = g ++ [bx, P.blk] ∧ notOld bx = true) ∧ ws = [] ∧ Sil1 least most i P) many ?_ ?_
  · refine ⟨0, Po.new least most 0, by omega, by omega, ?_, ⟨_, rfl, rfl⟩, rfl, ?_⟩
    · simp (maxDischargeDepth := 9) -implicitDefEqProofs only [push_cast, reduceIte, Nat.reduceEqDiff, Nat.reduceAdd, Nat.reduceSub, Nat.reduceMul, Nat.reduceDiv, Nat.reduceMod, Nat.reduceLT, Nat.reduceLeDiff, Nat.reduceBEq, Nat.reduceBNe, reduceCtorEq, Int.reduceEq, Int.reduceNe, Int.reduceLT, Int.reduceLE, Int.reduceToNat, Int.reduceNeg, Int.reduceAdd, Int.reduceSub, Int.reduceMul, Int.reducePow, Nat.reducePow, Int.reduceBEq]
    · refine ⟨?_, rfl, rfl, rfl, ?_, rfl, rfl, rfl, ?_⟩
      · constructor <;> simp [Po.new] <;> omega
      · simp [Po.new]; omega
      · simp [Po.new]
  · rintro k a h ws ⟨i, P, rfl, hi, rfl, ⟨bx, rfl, hbx⟩, rfl, s⟩
    by_cases hlt : i < many
    · have hlt' : (i : Int) < (many : Int) := by omega
      obtain ⟨ok1, ok2, s', st1⟩ := s.step (by omega) l1 l2 l3
      have v1 : IntKind.i64.wrap ((i : Int) + 1) = (i : Int) + 1 := wr_i64 _ (by omega) (by omega)
      have v2 : IntKind.i64.wrap (((i : Int) + 1).tdiv 8) = ((i : Int) + 1) / 8 := by
        rw [Int.tdiv_eq_ediv_of_nonneg (by omega)]; exact wr_i64 _ (by omega) (by omega)
      have v3 : IntKind.i64.wrap (least + ((i : Int) + 1) / 8) = least + ((i : Int) + 1) / 8 := wr_i64 _ (by omega) (by omega)
      have m0 := s.ok.m
      have m1' := ok1.m
      have m2' := ok2.m
      have st := s.st
      have ok0 := s.ok
      have nx0 := s.nx.1
      have nx1 : P.next ≤ 4611686018427387904 := by have := s.nx.2; omega
      have ex' := s'.ex
      have rg' : abits .and .u8 ((P.sent P.next).got true).reg 1 = 1 := by
        rw [and1 _ ok2.r.1 ok2.r.2, s'.rg]; exact regN_odd _ (by omega)
      have st2 := s'.st
      push_cast at ex'
      have ex2 : ((P.sent P.next).got true).exp = if most < least + ((i : Int) + 1) / 8 then most else least + ((i : Int) + 1) / 8 := by
        rw [ex']; split <;> split <;> omega
      simp (maxDischargeDepth := 9) -implicitDefEqProofs only [push_cast, reduceIte, Nat.reduceEqDiff, Nat.reduceAdd, Nat.reduceSub, Nat.reduceMul, Nat.reduceDiv, Nat.reduceMod, Nat.reduceLT, Nat.reduceLeDiff, Nat.reduceBEq, Nat.reduceBNe, reduceCtorEq, Int.reduceEq, Int.reduceNe, Int.reduceLT, Int.reduceLE, Int.reduceToNat, Int.reduceNeg, Int.reduceAdd, Int.reduceSub, Int.reduceMul, Int.reducePow, Nat.reducePow, Int.reduceBEq, hlt, hlt', hg, hbx, isPo_blk, rdPo_blk, notOld_Po, c19, c21, c18, c22, c25, m0, m1', m2', st, st1, st2, ok0, ok1, ok2, nx0, nx1, v1, v2, v3, ex2, rg']
      refine loop_next (many - (i + 1)) (by omega) ⟨i + 1, _, rfl, by omega, ?_, ⟨bx, rfl, hbx⟩, rfl, s'⟩
      simp (maxDischargeDepth := 9) -implicitDefEqProofs only [push_cast, reduceIte, Nat.reduceEqDiff, Nat.reduceAdd, Nat.reduceSub, Nat.reduceMul, Nat.reduceDiv, Nat.reduceMod, Nat.reduceLT, Nat.reduceLeDiff, Nat.reduceBEq, Nat.reduceBNe, reduceCtorEq, Int.reduceEq, Int.reduceNe, Int.reduceLT, Int.reduceLE, Int.reduceToNat, Int.reduceNeg, Int.reduceAdd, Int.reduceSub, Int.reduceMul, Int.reducePow, Nat.reducePow, Int.reduceBEq]
    · have hi2 : i = many := by omega
      subst hi2
      simp (maxDischargeDepth := 9) -implicitDefEqProofs only [push_cast, reduceIte, Nat.reduceEqDiff, Nat.reduceAdd, Nat.reduceSub, Nat.reduceMul, Nat.reduceDiv, Nat.reduceMod, Nat.reduceLT, Nat.reduceLeDiff, Nat.reduceBEq, Nat.reduceBNe, reduceCtorEq, Int.reduceEq, Int.reduceNe, Int.reduceLT, Int.reduceLE, Int.reduceToNat, Int.reduceNeg, Int.reduceAdd, Int.reduceSub, Int.reduceMul, Int.reducePow, Nat.reducePow, Int.reduceBEq]
      refine wp_kSeq (wp_kBlock ?_)
      refine wp_loop (fun k a h ws => ∃ (j : Nat) (P : Po), k = 12 - j ∧ j ≤ 12 ∧ a = [(5, .int .i64 least), (7, .ptr (g.length + 1) 0), (9, .int .i64 (i : Int)), (90, .int .i64 (j : Int))] ∧
          (∃ bx, h = g ++ [bx, P.blk] ∧ notOld bx = true) ∧ ws = [] ∧ Sil2 least i j P) 12 ?_ ?_
      · refine ⟨0, P, rfl, by omega, ?_, ⟨bx, rfl, hbx⟩, rfl, ⟨s.ok, s.st, s.fl, fun h => absurd h (by omega), fun h0 => ?_, ?_, by rw [s.rq]; simp, ?_⟩⟩
        · simp (maxDischargeDepth := 9) -implicitDefEqProofs only [push_cast, reduceIte, Nat.reduceEqDiff, Nat.reduceAdd, Nat.reduceSub, Nat.reduceMul, Nat.reduceDiv, Nat.reduceMod, Nat.reduceLT, Nat.reduceLeDiff, Nat.reduceBEq, Nat.reduceBNe, reduceCtorEq, Int.reduceEq, Int.reduceNe, Int.reduceLT, Int.reduceLE, Int.reduceToNat, Int.reduceNeg, Int.reduceAdd, Int.reduceSub, Int.reduceMul, Int.reducePow, Nat.reducePow, Int.reduceBEq]
        · subst h0; have := s.ex; simp at this; omega
        · have := regN_rng i; rw [s.rg]; omega
        · have := s.nx; simp; exact this
      · rintro k a h ws ⟨j, P, rfl, hj, rfl, ⟨bx, rfl, hbx⟩, rfl, s⟩
        by_cases hlt : j < 12
        · have hlt' : (j : Int) < 12 := by omega
          obtain ⟨ok1, s', t1, t2, t3⟩ := s.step hm2 hlt l1 (by omega)
          have v1 : IntKind.i64.wrap ((j : Int) + 1) = (j : Int) + 1 := wr_i64 _ (by omega) (by omega)
          have m0 := s.ok.m
          have m1' := ok1.m
          have st := s.st
          have st1 := s'.st
          have ok0 := s.ok
          have nx0 := s.nx.1
          have nx1 : P.next ≤ 4611686018427387904 := by have := s.nx.2; omega
          have nx2 := s'.nx
          have v2 : IntKind.i64.wrap ((P.sent P.next).next - P.next) = (P.sent P.next).next - P.next := wr_i64 _ (by omega) (by omega)
          have v4 := shl_sec (e := least) (by omega) (by omega)
          have e0 : ¬ least < 0 := by omega
          have fl : P.floor = least := s.fl
          have nz : 3 ≤ j → (P.sent P.next).next - P.next = 1000000000 * 2 ^ least.toNat := t1
          by_cases q3 : 3 ≤ j
          · have q3' : (3 : Int) ≤ (j : Int) := by omega
            have z1 := t1 q3
            rw [z1] at v2
            by_cases q8 : 8 ≤ j
            · have q8' : (8 : Int) ≤ (j : Int) := by omega
              have q7' : ¬ (j : Int) < 7 := by omega
              have z2 := t2 q8
              simp (maxDischargeDepth := 9) -implicitDefEqProofs only [push_cast, reduceIte, Nat.reduceEqDiff, Nat.reduceAdd, Nat.reduceSub, Nat.reduceMul, Nat.reduceDiv, Nat.reduceMod, Nat.reduceLT, Nat.reduceLeDiff, Nat.reduceBEq, Nat.reduceBNe, reduceCtorEq, Int.reduceEq, Int.reduceNe, Int.reduceLT, Int.reduceLE, Int.reduceToNat, Int.reduceNeg, Int.reduceAdd, Int.reduceSub, Int.reduceMul, Int.reducePow, Nat.reducePow, Int.reduceBEq, hlt, hlt', hg, hbx, isPo_blk, rdPo_blk, notOld_Po, c19, c21, c25, m0, m1', st, st1, ok0, ok1, nx0, nx1, v1, v2, v4, e0, q3', q8', q7', z1, z2]
              refine loop_next (12 - (j + 1)) (by omega) ⟨j + 1, _, rfl, by omega, ?_, ⟨bx, rfl, hbx⟩, rfl, s'⟩
              simp (maxDischargeDepth := 9) -implicitDefEqProofs only [push_cast, reduceIte, Nat.reduceEqDiff, Nat.reduceAdd, Nat.reduceSub, Nat.reduceMul, Nat.reduceDiv, Nat.reduceMod, Nat.reduceLT, Nat.reduceLeDiff, Nat.reduceBEq, Nat.reduceBNe, reduceCtorEq, Int.reduceEq, Int.reduceNe, Int.reduceLT, Int.reduceLE, Int.reduceToNat, Int.reduceNeg, Int.reduceAdd, Int.reduceSub, Int.reduceMul, Int.reducePow, Nat.reducePow, Int.reduceBEq]
            · have q8' : ¬ (8 : Int) ≤ (j : Int) := by omega
              by_cases q7 : j < 7
              · have q7' : (j : Int) < 7 := by omega
                by_cases qm : 8 ≤ i
                · have qm' : (8 : Int) ≤ (i : Int) := by omega
                  have z3 := t3 q7 qm
                  simp (maxDischargeDepth := 9) -implicitDefEqProofs only [push_cast, reduceIte, Nat.reduceEqDiff, Nat.reduceAdd, Nat.reduceSub, Nat.reduceMul, Nat.reduceDiv, Nat.reduceMod, Nat.reduceLT, Nat.reduceLeDiff, Nat.reduceBEq, Nat.reduceBNe, reduceCtorEq, Int.reduceEq, Int.reduceNe, Int.reduceLT, Int.reduceLE, Int.reduceToNat, Int.reduceNeg, Int.reduceAdd, Int.reduceSub, Int.reduceMul, Int.reducePow, Nat.reducePow, Int.reduceBEq, hlt, hlt', hg, hbx, isPo_blk, rdPo_blk, notOld_Po, c19, c21, c25, m0, m1', st, st1, ok0, ok1, nx0, nx1, v1, v2, v4, e0, q3', q8', q7', qm', z1, z3]
                  refine loop_next (12 - (j + 1)) (by omega) ⟨j + 1, _, rfl, by omega, ?_, ⟨bx, rfl, hbx⟩, rfl, s'⟩
                  simp (maxDischargeDepth := 9) -implicitDefEqProofs only [push_cast, reduceIte, Nat.reduceEqDiff, Nat.reduceAdd, Nat.reduceSub, Nat.reduceMul, Nat.reduceDiv, Nat.reduceMod, Nat.reduceLT, Nat.reduceLeDiff, Nat.reduceBEq, Nat.reduceBNe, reduceCtorEq, Int.reduceEq, Int.reduceNe, Int.reduceLT, Int.reduceLE, Int.reduceToNat, Int.reduceNeg, Int.reduceAdd, Int.reduceSub, Int.reduceMul, Int.reducePow, Nat.reducePow, Int.reduceBEq]
                · have qm' : ¬ (8 : Int) ≤ (i : Int) := by omega
                  simp (maxDischargeDepth := 9) -implicitDefEqProofs only [push_cast, reduceIte, Nat.reduceEqDiff, Nat.reduceAdd, Nat.reduceSub, Nat.reduceMul, Nat.reduceDiv, Nat.reduceMod, Nat.reduceLT, Nat.reduceLeDiff, Nat.reduceBEq, Nat.reduceBNe, reduceCtorEq, Int.reduceEq, Int.reduceNe, Int.reduceLT, Int.reduceLE, Int.reduceToNat, Int.reduceNeg, Int.reduceAdd, Int.reduceSub, Int.reduceMul, Int.reducePow, Nat.reducePow, Int.reduceBEq, hlt, hlt', hg, hbx, isPo_blk, rdPo_blk, notOld_Po, c19, c21, c25, m0, m1', st, st1, ok0, ok1, nx0, nx1, v1, v2, v4, e0, q3', q8', q7', qm', z1]
                  refine loop_next (12 - (j + 1)) (by omega) ⟨j + 1, _, rfl, by omega, ?_, ⟨bx, rfl, hbx⟩, rfl, s'⟩
                  simp (maxDischargeDepth := 9) -implicitDefEqProofs only [push_cast, reduceIte, Nat.reduceEqDiff, Nat.reduceAdd, Nat.reduceSub, Nat.reduceMul, Nat.reduceDiv, Nat.reduceMod, Nat.reduceLT, Nat.reduceLeDiff, Nat.reduceBEq, Nat.reduceBNe, reduceCtorEq, Int.reduceEq, Int.reduceNe, Int.reduceLT, Int.reduceLE, Int.reduceToNat, Int.reduceNeg, Int.reduceAdd, Int.reduceSub, Int.reduceMul, Int.reducePow, Nat.reducePow, Int.reduceBEq]
              · have q7' : ¬ (j : Int) < 7 := by omega
                simp (maxDischargeDepth := 9) -implicitDefEqProofs only [push_cast, reduceIte, Nat.reduceEqDiff, Nat.reduceAdd, Nat.reduceSub, Nat.reduceMul, Nat.reduceDiv, Nat.reduceMod, Nat.reduceLT, Nat.reduceLeDiff, Nat.reduceBEq, Nat.reduceBNe, reduceCtorEq, Int.reduceEq, Int.reduceNe, Int.reduceLT, Int.reduceLE, Int.reduceToNat, Int.reduceNeg, Int.reduceAdd, Int.reduceSub, Int.reduceMul, Int.reducePow, Nat.reducePow, Int.reduceBEq, hlt, hlt', hg, hbx, isPo_blk, rdPo_blk, notOld_Po, c19, c21, c25, m0, m1', st, st1, ok0, ok1, nx0, nx1, v1, v2, v4, e0, q3', q8', q7', z1]
                refine loop_next (12 - (j + 1)) (by omega) ⟨j + 1, _, rfl, by omega, ?_, ⟨bx, rfl, hbx⟩, rfl, s'⟩
                simp (maxDischargeDepth := 9) -implicitDefEqProofs only [push_cast, reduceIte, Nat.reduceEqDiff, Nat.reduceAdd, Nat.reduceSub, Nat.reduceMul, Nat.reduceDiv, Nat.reduceMod, Nat.reduceLT, Nat.reduceLeDiff, Nat.reduceBEq, Nat.reduceBNe, reduceCtorEq, Int.reduceEq, Int.reduceNe, Int.reduceLT, Int.reduceLE, Int.reduceToNat, Int.reduceNeg, Int.reduceAdd, Int.reduceSub, Int.reduceMul, Int.reducePow, Nat.reducePow, Int.reduceBEq]
          · have q3' : ¬ (3 : Int) ≤ (j : Int) := by omega
            have q8' : ¬ (8 : Int) ≤ (j : Int) := by omega
            have q7' : (j : Int) < 7 := by omega
            by_cases qm : 8 ≤ i
            · have qm' : (8 : Int) ≤ (i : Int) := by omega
              have z3 := t3 (by omega) qm
              simp (maxDischargeDepth := 9) -implicitDefEqProofs only [push_cast, reduceIte, Nat.reduceEqDiff, Nat.reduceAdd, Nat.reduceSub, Nat.reduceMul, Nat.reduceDiv, Nat.reduceMod, Nat.reduceLT, Nat.reduceLeDiff, Nat.reduceBEq, Nat.reduceBNe, reduceCtorEq, Int.reduceEq, Int.reduceNe, Int.reduceLT, Int.reduceLE, Int.reduceToNat, Int.reduceNeg, Int.reduceAdd, Int.reduceSub, Int.reduceMul, Int.reducePow, Nat.reducePow, Int.reduceBEq, hlt, hlt', hg, hbx, isPo_blk, rdPo_blk, notOld_Po, c19, c21, c25, m0, m1', st, st1, ok0, ok1, nx0, nx1, v1, v2, v4, e0, q3', q8', q7', qm', z3]
              refine loop_next (12 - (j + 1)) (by omega) ⟨j + 1, _, rfl, by omega, ?_, ⟨bx, rfl, hbx⟩, rfl, s'⟩
              simp (maxDischargeDepth := 9) -implicitDefEqProofs only [push_cast, reduceIte, Nat.reduceEqDiff, Nat.reduceAdd, Nat.reduceSub, Nat.reduceMul, Nat.reduceDiv, Nat.reduceMod, Nat.reduceLT, Nat.reduceLeDiff, Nat.reduceBEq, Nat.reduceBNe, reduceCtorEq, Int.reduceEq, Int.reduceNe, Int.reduceLT, Int.reduceLE, Int.reduceToNat, Int.reduceNeg, Int.reduceAdd, Int.reduceSub, Int.reduceMul, Int.reducePow, Nat.reducePow, Int.reduceBEq]
            · have qm' : ¬ (8 : Int) ≤ (i : Int) := by omega
              simp (maxDischargeDepth := 9) -implicitDefEqProofs only [push_cast, reduceIte, Nat.reduceEqDiff, Nat.reduceAdd, Nat.reduceSub, Nat.reduceMul, Nat.reduceDiv, Nat.reduceMod, Nat.reduceLT, Nat.reduceLeDiff, Nat.reduceBEq, Nat.reduceBNe, reduceCtorEq, Int.reduceEq, Int.reduceNe, Int.reduceLT, Int.reduceLE, Int.reduceToNat, Int.reduceNeg, Int.reduceAdd, Int.reduceSub, Int.reduceMul, Int.reducePow, Nat.reducePow, Int.reduceBEq, hlt, hlt', hg, hbx, isPo_blk, rdPo_blk, notOld_Po, c19, c21, c25, m0, m1', st, st1, ok0, ok1, nx0, nx1, v1, v2, v4, e0, q3', q8', q7', qm']
              refine loop_next (12 - (j + 1)) (by omega) ⟨j + 1, _, rfl, by omega, ?_, ⟨bx, rfl, hbx⟩, rfl, s'⟩
              simp (maxDischargeDepth := 9) -implicitDefEqProofs only [push_cast, reduceIte, Nat.reduceEqDiff, Nat.reduceAdd, Nat.reduceSub, Nat.reduceMul, Nat.reduceDiv, Nat.reduceMod, Nat.reduceLT, Nat.reduceLeDiff, Nat.reduceBEq, Nat.reduceBNe, reduceCtorEq, Int.reduceEq, Int.reduceNe, Int.reduceLT, Int.reduceLE, Int.reduceToNat, Int.reduceNeg, Int.reduceAdd, Int.reduceSub, Int.reduceMul, Int.reducePow, Nat.reducePow, Int.reduceBEq]
        · have hj2 : j = 12 := by omega
          subst hj2
          have m0 := s.ok.m
          have ex := s.ex (by omega)
          simp (maxDischargeDepth := 9) -implicitDefEqProofs only [push_cast, reduceIte, Nat.reduceEqDiff, Nat.reduceAdd, Nat.reduceSub, Nat.reduceMul, Nat.reduceDiv, Nat.reduceMod, Nat.reduceLT, Nat.reduceLeDiff, Nat.reduceBEq, Nat.reduceBNe, reduceCtorEq, Int.reduceEq, Int.reduceNe, Int.reduceLT, Int.reduceLE, Int.reduceToNat, Int.reduceNeg, Int.reduceAdd, Int.reduceSub, Int.reduceMul, Int.reducePow, Nat.reducePow, Int.reduceBEq, hg, hbx, isPo_blk, rdPo_blk, notOld_Po, c22, m0, ex]

theorem silent_law (js : AHeap) (avs : List AV) (hx : Ext js) (ht : TyA (C.gl ++ js) [.agg [.i .i64, .i .i64, .i .i64], .one (.i .u8)] avs) : ∃ h' ws, W C 4 avs (C.gl ++ js) = some (.bool true, h', ws) := by
  simp only [TyA, TyL, Ty] at ht
  obtain ⟨cs, vs, rfl, ⟨_, _, rfl, ⟨a, rfl, _⟩, _, _, rfl, ⟨b, rfl, _⟩, _, _, rfl, ⟨c, rfl, _⟩, rfl⟩, _, _, rfl, ⟨d, rfl, hd⟩, rfl⟩ := ht
  have hd' : 0 ≤ d ∧ d ≤ 255 := hd
  exact W_law (m := M4) (fun _ => rfl) rfl (silent_at _ hx.good a b c d hd') fun _ => silent_at _ good_nil a b c d hd'
theorem silent_kinds : aksOf X.P 20 [23, 5] = some [.agg [.i .i64, .i .i64, .i .i64], .one (.i .u8)] := by kernel_rfl
end Go.Proofs.YtimlhgpjmjmjhaaW.AI.B
