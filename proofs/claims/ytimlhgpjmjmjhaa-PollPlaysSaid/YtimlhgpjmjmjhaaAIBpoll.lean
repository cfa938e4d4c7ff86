import Derived.Test.YtimlhgpjmjmjhaaAIBbase
namespace Go.Proofs.YtimlhgpjmjmjhaaW.AI.B
open Go Go.Proofs.YtimlhgpjmjmjhaaW.AI
set_option maxRecDepth 100000
set_option linter.unusedSimpArgs false
set_option linter.unusedVariables false

structure Po where
  exp : Int
  floor : Int
  most : Int
  reg : Int
  req : Int
  steady : Int
  last : Int
  next : Int
  stopped : Bool
  made : Bool

def Po.cells (P : Po) : ACells := .vals [.int .i64 P.exp, .int .i64 P.floor, .int .i64 P.most, .int .u8 P.reg, .int .i64 P.req, .int .i64 P.steady, .int .i64 P.last, .int .i64 P.next, .bool P.stopped, .bool P.made]
def Po.blk (P : Po) : ABlk := ⟨.tip false, P.cells⟩
def isPo : Option ABlk → Bool
  | some ⟨.tip false, .vals [.int .i64 _, .int .i64 _, .int .i64 _, .int .u8 _, .int .i64 _, .int .i64 _, .int .i64 _, .int .i64 _, .bool _, .bool _]⟩ => true
  | _ => false
def rdPo : Option ABlk → Po
  | some ⟨.tip false, .vals [.int .i64 a, .int .i64 b, .int .i64 c, .int .u8 d, .int .i64 e, .int .i64 f, .int .i64 g, .int .i64 h, .bool i, .bool j]⟩ => ⟨a, b, c, d, e, f, g, h, i, j⟩
  | _ => ⟨0, 0, 0, 0, 0, 0, 0, 0, false, false⟩
theorem isPo_blk (P : Po) : isPo (some P.blk) = true := rfl
theorem rdPo_blk (P : Po) : rdPo (some P.blk) = P := rfl
theorem notOld_Po (P : Po) : notOld P.blk = true := rfl
theorem isPo_elim {x : Option ABlk} (h : isPo x = true) : ∃ P : Po, x = some P.blk ∧ rdPo x = P := by
  unfold isPo at h
  split at h
  · exact ⟨⟨_, _, _, _, _, _, _, _, _, _⟩, rfl, rfl⟩
  · cases h

/-- What New makes. -/
def Po.new (least most first : Int) : Po := ⟨least, least, most, 0, 0, 0, 0, first, false, true⟩
def maxT : Int := 4611686018427387904
def Po.asks (P : Po) (bad : Bool) : Int := if bad then 1 else if P.stopped then 35 else 0
def Po.quick (P : Po) : Po := if 3 ≤ P.req ∧ P.reg % 8 = 0 then { P with exp := P.floor, steady := 0 } else P
def Po.sent (P : Po) (now : Int) : Po := { P.quick with reg := P.reg * 2 % 256, req := P.req + 1, last := now, next := now + 1000000000 * 2 ^ P.quick.exp.toNat }
def Po.got (P : Po) (good : Bool) : Po :=
  let r := if P.reg % 2 = 0 then P.reg + 1 else P.reg
  if good then
    if P.steady + 1 = 8 then { P with reg := r, steady := 0, exp := if P.exp + 1 < P.most then P.exp + 1 else P.most }
    else { P with reg := r, steady := P.steady + 1 }
  else { P with reg := r, steady := 0, exp := if P.floor < P.exp - 1 then P.exp - 1 else P.floor }
def Po.rate (P : Po) (least : Int) : Po :=
  let e := if P.exp < least then least else P.exp
  { P with floor := if P.floor < least then least else P.floor, exp := e, most := if P.most < least then least else P.most, steady := 0,
           next := if 0 < P.req then (if P.next < P.last + 1000000000 * 2 ^ e.toNat then P.last + 1000000000 * 2 ^ e.toNat else P.next) else P.next }
def Po.stop (P : Po) : Po := { P with stopped := true }

/-- A poll as it lies. -/
structure Po.ok (P : Po) : Prop where
  f : 0 ≤ P.floor ∧ P.floor ≤ P.exp ∧ P.exp ≤ P.most ∧ P.most ≤ 10
  r : 0 ≤ P.reg ∧ P.reg < 256
  q : 0 ≤ P.req ∧ P.req < 1000000000
  s : 0 ≤ P.steady ∧ P.steady < 8
  l : 0 ≤ P.last ∧ P.last ≤ 4611686018427387904
  m : P.made = true

theorem and7 (r : Int) (h0 : 0 ≤ r) (h1 : r < 256) : abits .and .u8 r 7 = r % 8 := by
  have : ∀ n : Fin 256, abits .and .u8 (n.val : Int) 7 = (n.val : Int) % 8 := by decide +kernel
  have := this ⟨r.toNat, by omega⟩
  simpa [Int.toNat_of_nonneg h0] using this
theorem or1 (r : Int) (h0 : 0 ≤ r) (h1 : r < 256) : abits .or .u8 r 1 = if r % 2 = 0 then r + 1 else r := by
  have : ∀ n : Fin 256, abits .or .u8 (n.val : Int) 1 = if (n.val : Int) % 2 = 0 then (n.val : Int) + 1 else (n.val : Int) := by decide +kernel
  have := this ⟨r.toNat, by omega⟩
  simpa [Int.toNat_of_nonneg h0] using this
theorem shl1 (r : Int) (h0 : 0 ≤ r) (h1 : r < 256) : IntKind.u8.wrap (r * 2) = r * 2 % 256 := by
  rw [IntKind.wrap_u8]

theorem pow_le {e : Int} (h0 : 0 ≤ e) (h1 : e ≤ 10) : (2 : Int) ^ e.toNat ≤ 1024 ∧ 1 ≤ (2 : Int) ^ e.toNat := by
  have : e = 0 ∨ e = 1 ∨ e = 2 ∨ e = 3 ∨ e = 4 ∨ e = 5 ∨ e = 6 ∨ e = 7 ∨ e = 8 ∨ e = 9 ∨ e = 10 := by omega
  rcases this with rfl | rfl | rfl | rfl | rfl | rfl | rfl | rfl | rfl | rfl | rfl <;> decide

theorem shl_sec {e : Int} (h0 : 0 ≤ e) (h1 : e ≤ 10) : IntKind.i64.wrap (1000000000 * 2 ^ min e.toNat 64) = 1000000000 * 2 ^ e.toNat := by
  have hm : min e.toNat 64 = e.toNat := by omega
  rw [hm]
  have := pow_le h0 h1
  exact IntWalk.i64_in _ (by omega)


section
variable {h : AHeap} {p : Nat} (hg : Good h)
include hg

theorem c57 (hi : isPo h[p]? = true) : W C 57 [.ptr p 0] h = some (.bool (!(rdPo h[p]?).made), h, []) := by
  obtain ⟨P, hp, hr⟩ := isPo_elim hi
  rw [hr]
  refine W_quiet0 (m := M57) rfl rfl rfl rfl rfl hg ?_
  simp (maxDischargeDepth := 9) -implicitDefEqProofs only [push_cast, reduceIte, Nat.reduceEqDiff, Nat.reduceAdd, Nat.reduceSub, Nat.reduceMul, Nat.reduceDiv, Nat.reduceMod, Nat.reduceLT, Nat.reduceLeDiff, Nat.reduceBEq, Nat.reduceBNe, reduceCtorEq, Int.reduceEq, Int.reduceNe, Int.reduceLT, Int.reduceLE, Int.reduceToNat, Int.reduceNeg, Int.reduceAdd, Int.reduceSub, Int.reduceMul, Int.reducePow, Nat.reducePow, Int.reduceBEq, M57, hp, Po.blk, Po.cells]

theorem c59 (hi : isPo h[p]? = true) (h0 : 0 ≤ (rdPo h[p]?).exp) (h1 : (rdPo h[p]?).exp ≤ 10) : W C 59 [.ptr p 0] h = some (.int .i64 (1000000000 * 2 ^ (rdPo h[p]?).exp.toNat), h, []) := by
  obtain ⟨P, hp, hr⟩ := isPo_elim hi
  rw [hr] at h0 h1 ⊢
  refine W_quiet0 (m := M59) rfl rfl rfl rfl rfl hg ?_
  have e0 : ¬ P.exp < 0 := by omega
  simp (maxDischargeDepth := 9) -implicitDefEqProofs only [push_cast, reduceIte, Nat.reduceEqDiff, Nat.reduceAdd, Nat.reduceSub, Nat.reduceMul, Nat.reduceDiv, Nat.reduceMod, Nat.reduceLT, Nat.reduceLeDiff, Nat.reduceBEq, Nat.reduceBNe, reduceCtorEq, Int.reduceEq, Int.reduceNe, Int.reduceLT, Int.reduceLE, Int.reduceToNat, Int.reduceNeg, Int.reduceAdd, Int.reduceSub, Int.reduceMul, Int.reducePow, Nat.reducePow, Int.reduceBEq, M59, hp, Po.blk, Po.cells, e0, IntKind.bits, shl_sec h0 h1]

theorem c58 {n : Int} (hq : h[p]? = some ⟨.tip false, .ints .i64 [n]⟩) : W C 58 [.ptr p 0] h = some (.bool (decide (n < 0 ∨ 4611686018427387904 < n)), h, []) := by
  refine W_quiet0 (m := M58) rfl rfl rfl rfl rfl hg ?_
  by_cases e0 : n < 0
  all_goals simp (maxDischargeDepth := 9) -implicitDefEqProofs only [push_cast, reduceIte, Nat.reduceEqDiff, Nat.reduceAdd, Nat.reduceSub, Nat.reduceMul, Nat.reduceDiv, Nat.reduceMod, Nat.reduceLT, Nat.reduceLeDiff, Nat.reduceBEq, Nat.reduceBNe, reduceCtorEq, Int.reduceEq, Int.reduceNe, Int.reduceLT, Int.reduceLE, Int.reduceToNat, Int.reduceNeg, Int.reduceAdd, Int.reduceSub, Int.reduceMul, Int.reducePow, Nat.reducePow, Int.reduceBEq, M58, hq, e0]

theorem c60 {n : Int} (hq : h[p]? = some ⟨.tip false, .ints .i64 [n]⟩) : W C 60 [.ptr p 0] h = some (.bool (decide (n < 4 ∨ 10 < n)), h, []) := by
  refine W_quiet0 (m := M60) rfl rfl rfl rfl rfl hg ?_
  by_cases e0 : n < 4
  all_goals simp (maxDischargeDepth := 9) -implicitDefEqProofs only [push_cast, reduceIte, Nat.reduceEqDiff, Nat.reduceAdd, Nat.reduceSub, Nat.reduceMul, Nat.reduceDiv, Nat.reduceMod, Nat.reduceLT, Nat.reduceLeDiff, Nat.reduceBEq, Nat.reduceBNe, reduceCtorEq, Int.reduceEq, Int.reduceNe, Int.reduceLT, Int.reduceLE, Int.reduceToNat, Int.reduceNeg, Int.reduceAdd, Int.reduceSub, Int.reduceMul, Int.reducePow, Nat.reducePow, Int.reduceBEq, M60, hq, e0]

theorem c22 (hi : isPo h[p]? = true) (hm : (rdPo h[p]?).made = true) : W C 22 [.ptr p 0] h = some (.int .i64 (rdPo h[p]?).exp, h, []) := by
  have a := c57 hg hi
  obtain ⟨P, hp, hr⟩ := isPo_elim hi
  rw [hr] at hm a ⊢
  refine W_quiet0 (m := M22) rfl rfl rfl rfl rfl hg ?_
  simp (maxDischargeDepth := 9) -implicitDefEqProofs only [push_cast, reduceIte, Nat.reduceEqDiff, Nat.reduceAdd, Nat.reduceSub, Nat.reduceMul, Nat.reduceDiv, Nat.reduceMod, Nat.reduceLT, Nat.reduceLeDiff, Nat.reduceBEq, Nat.reduceBNe, reduceCtorEq, Int.reduceEq, Int.reduceNe, Int.reduceLT, Int.reduceLE, Int.reduceToNat, Int.reduceNeg, Int.reduceAdd, Int.reduceSub, Int.reduceMul, Int.reducePow, Nat.reducePow, Int.reduceBEq, M22, a, hp, Po.blk, Po.cells, hm]
theorem c23 (hi : isPo h[p]? = true) (hm : (rdPo h[p]?).made = true) : W C 23 [.ptr p 0] h = some (.int .i64 (rdPo h[p]?).floor, h, []) := by
  have a := c57 hg hi
  obtain ⟨P, hp, hr⟩ := isPo_elim hi
  rw [hr] at hm a ⊢
  refine W_quiet0 (m := M23) rfl rfl rfl rfl rfl hg ?_
  simp (maxDischargeDepth := 9) -implicitDefEqProofs only [push_cast, reduceIte, Nat.reduceEqDiff, Nat.reduceAdd, Nat.reduceSub, Nat.reduceMul, Nat.reduceDiv, Nat.reduceMod, Nat.reduceLT, Nat.reduceLeDiff, Nat.reduceBEq, Nat.reduceBNe, reduceCtorEq, Int.reduceEq, Int.reduceNe, Int.reduceLT, Int.reduceLE, Int.reduceToNat, Int.reduceNeg, Int.reduceAdd, Int.reduceSub, Int.reduceMul, Int.reducePow, Nat.reducePow, Int.reduceBEq, M23, a, hp, Po.blk, Po.cells, hm]
theorem c25 (hi : isPo h[p]? = true) (hm : (rdPo h[p]?).made = true) : W C 25 [.ptr p 0] h = some (.int .u8 (rdPo h[p]?).reg, h, []) := by
  have a := c57 hg hi
  obtain ⟨P, hp, hr⟩ := isPo_elim hi
  rw [hr] at hm a ⊢
  refine W_quiet0 (m := M25) rfl rfl rfl rfl rfl hg ?_
  simp (maxDischargeDepth := 9) -implicitDefEqProofs only [push_cast, reduceIte, Nat.reduceEqDiff, Nat.reduceAdd, Nat.reduceSub, Nat.reduceMul, Nat.reduceDiv, Nat.reduceMod, Nat.reduceLT, Nat.reduceLeDiff, Nat.reduceBEq, Nat.reduceBNe, reduceCtorEq, Int.reduceEq, Int.reduceNe, Int.reduceLT, Int.reduceLE, Int.reduceToNat, Int.reduceNeg, Int.reduceAdd, Int.reduceSub, Int.reduceMul, Int.reducePow, Nat.reducePow, Int.reduceBEq, M25, a, hp, Po.blk, Po.cells, hm]
theorem c19 (hi : isPo h[p]? = true) (hm : (rdPo h[p]?).made = true) :
    W C 19 [.ptr p 0] h = some (.tup [.int .i64 (if (rdPo h[p]?).stopped = true then 0 else (rdPo h[p]?).next), .bool (!(rdPo h[p]?).stopped)], h, []) := by
  have a := c57 hg hi
  obtain ⟨P, hp, hr⟩ := isPo_elim hi
  rw [hr] at hm a ⊢
  refine W_quiet0 (m := M19) rfl rfl rfl rfl rfl hg ?_
  cases hs : P.stopped
  all_goals simp (maxDischargeDepth := 9) -implicitDefEqProofs only [push_cast, reduceIte, Nat.reduceEqDiff, Nat.reduceAdd, Nat.reduceSub, Nat.reduceMul, Nat.reduceDiv, Nat.reduceMod, Nat.reduceLT, Nat.reduceLeDiff, Nat.reduceBEq, Nat.reduceBNe, reduceCtorEq, Int.reduceEq, Int.reduceNe, Int.reduceLT, Int.reduceLE, Int.reduceToNat, Int.reduceNeg, Int.reduceAdd, Int.reduceSub, Int.reduceMul, Int.reducePow, Nat.reducePow, Int.reduceBEq, M19, a, hp, Po.blk, Po.cells, hm, hs]
theorem c20 {now : Int} (hi : isPo h[p]? = true) (hm : (rdPo h[p]?).made = true) :
    W C 20 [.ptr p 0, .int .i64 now] h = some (.bool (!(rdPo h[p]?).stopped && decide ((rdPo h[p]?).next ≤ now)), h, []) := by
  have a := c57 hg hi
  obtain ⟨P, hp, hr⟩ := isPo_elim hi
  rw [hr] at hm a ⊢
  refine W_quiet0 (m := M20) rfl rfl rfl rfl rfl hg ?_
  cases hs : P.stopped
  all_goals simp (maxDischargeDepth := 9) -implicitDefEqProofs only [push_cast, reduceIte, Nat.reduceEqDiff, Nat.reduceAdd, Nat.reduceSub, Nat.reduceMul, Nat.reduceDiv, Nat.reduceMod, Nat.reduceLT, Nat.reduceLeDiff, Nat.reduceBEq, Nat.reduceBNe, reduceCtorEq, Int.reduceEq, Int.reduceNe, Int.reduceLT, Int.reduceLE, Int.reduceToNat, Int.reduceNeg, Int.reduceAdd, Int.reduceSub, Int.reduceMul, Int.reducePow, Nat.reducePow, Int.reduceBEq, M20, a, hp, Po.blk, Po.cells, hm, hs]

-- asks: no further test
theorem c56 (hi : isPo h[p]? = true) (hm : (rdPo h[p]?).made = true) : W C 56 [.ptr p 0, .nils] h = some (.int .i64 ((rdPo h[p]?).asks false), h, []) := by
  have a := c57 hg hi
  obtain ⟨P, hp, hr⟩ := isPo_elim hi
  rw [hr] at hm a ⊢
  refine W_quiet0 (m := M56) rfl rfl rfl rfl rfl hg ?_
  cases hs : P.stopped
  all_goals
    simp (maxDischargeDepth := 9) -implicitDefEqProofs only [push_cast, reduceIte, Nat.reduceEqDiff, Nat.reduceAdd, Nat.reduceSub, Nat.reduceMul, Nat.reduceDiv, Nat.reduceMod, Nat.reduceLT, Nat.reduceLeDiff, Nat.reduceBEq, Nat.reduceBNe, reduceCtorEq, Int.reduceEq, Int.reduceNe, Int.reduceLT, Int.reduceLE, Int.reduceToNat, Int.reduceNeg, Int.reduceAdd, Int.reduceSub, Int.reduceMul, Int.reducePow, Nat.reducePow, Int.reduceBEq, M56, a, hp, Po.blk, Po.cells, hm]
    rw [w_loop, xiter_unfold]
    simp (maxDischargeDepth := 9) -implicitDefEqProofs only [push_cast, reduceIte, Nat.reduceEqDiff, Nat.reduceAdd, Nat.reduceSub, Nat.reduceMul, Nat.reduceDiv, Nat.reduceMod, Nat.reduceLT, Nat.reduceLeDiff, Nat.reduceBEq, Nat.reduceBNe, reduceCtorEq, Int.reduceEq, Int.reduceNe, Int.reduceLT, Int.reduceLE, Int.reduceToNat, Int.reduceNeg, Int.reduceAdd, Int.reduceSub, Int.reduceMul, Int.reducePow, Nat.reducePow, Int.reduceBEq, hp, hs, Po.asks, Po.blk, Po.cells]

-- asks: one test
theorem c56f {q k s : Nat} {bad : Bool} (hi : isPo h[p]? = true) (hm : (rdPo h[p]?).made = true) (hs : h[s]? = some ⟨.tip false, .vals [.fn k [.ptr q 0]]⟩)
    (hk : W C k [.ptr q 0] h = some (.bool bad, h, [])) : W C 56 [.ptr p 0, .sl s 0 1 1] h = some (.int .i64 ((rdPo h[p]?).asks bad), h, []) := by
  have a := c57 hg hi
  obtain ⟨P, hp, hr⟩ := isPo_elim hi
  rw [hr] at hm a ⊢
  refine W_quiet0 (m := M56) rfl rfl rfl rfl rfl hg ?_
  cases hst : P.stopped <;> cases bad
  all_goals
    simp (maxDischargeDepth := 9) -implicitDefEqProofs only [push_cast, reduceIte, Nat.reduceEqDiff, Nat.reduceAdd, Nat.reduceSub, Nat.reduceMul, Nat.reduceDiv, Nat.reduceMod, Nat.reduceLT, Nat.reduceLeDiff, Nat.reduceBEq, Nat.reduceBNe, reduceCtorEq, Int.reduceEq, Int.reduceNe, Int.reduceLT, Int.reduceLE, Int.reduceToNat, Int.reduceNeg, Int.reduceAdd, Int.reduceSub, Int.reduceMul, Int.reducePow, Nat.reducePow, Int.reduceBEq, M56, a, hp, Po.blk, Po.cells, hm]
    rw [w_loop, xiter_unfold]
    simp (maxDischargeDepth := 9) -implicitDefEqProofs only [push_cast, reduceIte, Nat.reduceEqDiff, Nat.reduceAdd, Nat.reduceSub, Nat.reduceMul, Nat.reduceDiv, Nat.reduceMod, Nat.reduceLT, Nat.reduceLeDiff, Nat.reduceBEq, Nat.reduceBNe, reduceCtorEq, Int.reduceEq, Int.reduceNe, Int.reduceLT, Int.reduceLE, Int.reduceToNat, Int.reduceNeg, Int.reduceAdd, Int.reduceSub, Int.reduceMul, Int.reducePow, Nat.reducePow, Int.reduceBEq, hp, hs, hst, Po.asks, hk, Po.blk, Po.cells]
    try (rw [xiter_unfold]; simp (maxDischargeDepth := 9) -implicitDefEqProofs only [push_cast, reduceIte, Nat.reduceEqDiff, Nat.reduceAdd, Nat.reduceSub, Nat.reduceMul, Nat.reduceDiv, Nat.reduceMod, Nat.reduceLT, Nat.reduceLeDiff, Nat.reduceBEq, Nat.reduceBNe, reduceCtorEq, Int.reduceEq, Int.reduceNe, Int.reduceLT, Int.reduceLE, Int.reduceToNat, Int.reduceNeg, Int.reduceAdd, Int.reduceSub, Int.reduceMul, Int.reducePow, Nat.reducePow, Int.reduceBEq, hp, hs, hst, Po.asks, hk, Po.blk, Po.cells])

/-- What stands when Sent asks. -/
theorem a56 {now : Int} (k : Nat) {bad : Bool} (hi : isPo h[p]? = true) (hm : (rdPo h[p]?).made = true)
    (hk : ∀ h' : AHeap, Good h' → h'[h.length]? = some ⟨.tip false, .ints .i64 [now]⟩ → W C k [.ptr h.length 0] h' = some (.bool bad, h', [])) :
    W C 56 [.ptr p 0, .sl (h.length + 1) 0 1 1] (h ++ [⟨.tip false, .ints .i64 [now]⟩, ⟨.tip false, .vals [.fn k [.ptr h.length 0]]⟩]) =
      some (.int .i64 ((rdPo h[p]?).asks bad), h ++ [⟨.tip false, .ints .i64 [now]⟩, ⟨.tip false, .vals [.fn k [.ptr h.length 0]]⟩], []) := by
  obtain ⟨P, hp, hr⟩ := isPo_elim hi
  have hlt : p < h.length := (List.getElem?_eq_some_iff.1 hp).1
  have hg1 : Good (h ++ [⟨.tip false, .ints .i64 [now]⟩, ⟨.tip false, .vals [.fn k [.ptr h.length 0]]⟩]) := good_app hg rfl
  have e : (h ++ [⟨.tip false, .ints .i64 [now]⟩, ⟨.tip false, .vals [.fn k [.ptr h.length 0]]⟩])[p]? = h[p]? := List.getElem?_append_left hlt
  have := c56f (p := p) (q := h.length) (k := k) (s := h.length + 1) (bad := bad) hg1 (by rw [e]; exact hi) (by rw [e]; exact hm) (by rw [List.getElem?_append_right (by omega)]; simp) (hk _ hg1 (by rw [List.getElem?_append_right (by omega)]; simp))
  rw [e] at this
  exact this

theorem c21 {now : Int} (hi : isPo h[p]? = true) (ok : (rdPo h[p]?).ok) (hs : (rdPo h[p]?).stopped = false) (h0 : 0 ≤ now) (h1 : now ≤ 4611686018427387904) :
    W C 21 [.ptr p 0, .int .i64 now] h = some (.int .i64 0, h.set p ((rdPo h[p]?).sent now).blk, [p]) := by
  have a := a56 (now := now) hg 58 hi ok.m (fun h' hg' hq => c58 hg' hq)
  obtain ⟨P, hp, hr⟩ := isPo_elim hi
  rw [hr] at ok hs a ⊢
  have hlt : p < h.length := (List.getElem?_eq_some_iff.1 hp).1
  have hne : ¬ p = h.length := by omega
  have hne' : ¬ h.length = p := by omega
  have hr0 := ok.r; have hq0 := ok.q; have hf0 := ok.f
  have n1 : ¬ now < 0 := by omega
  have n2 : ¬ 4611686018427387904 < now := by omega
  have e1 : (IntKind.i64.wrap (P.req + 1)) = P.req + 1 := wr_i64 _ (by omega) (by omega)
  have p1 := pow_le (e := P.exp) (by omega) (by omega)
  have p2 := pow_le (e := P.floor) (by omega) (by omega)
  have e2 : (IntKind.i64.wrap (now + 1000000000 * 2 ^ P.exp.toNat)) = now + 1000000000 * 2 ^ P.exp.toNat := wr_i64 _ (by omega) (by omega)
  have e3 : (IntKind.i64.wrap (now + 1000000000 * 2 ^ P.floor.toNat)) = now + 1000000000 * 2 ^ P.floor.toNat := wr_i64 _ (by omega) (by omega)
  refine W_set (m := M21) (js := [⟨.tip false, .ints .i64 [now]⟩, ⟨.tip false, .vals [.fn 58 [.ptr h.length 0]]⟩]) rfl rfl rfl rfl rfl hg hlt rfl rfl ?_
  have f1 : 0 ≤ P.exp := by omega
  have f2 : P.exp ≤ 10 := by omega
  have f3 : 0 ≤ P.floor := by omega
  have f4 : P.floor ≤ 10 := by omega
  have e4 := shl1 P.reg hr0.1 hr0.2
  by_cases q1 : 3 ≤ P.req
  · by_cases q2 : P.reg % 8 = 0
    · simp (maxDischargeDepth := 9) -implicitDefEqProofs only [push_cast, reduceIte, Nat.reduceEqDiff, Nat.reduceAdd, Nat.reduceSub, Nat.reduceMul, Nat.reduceDiv, Nat.reduceMod, Nat.reduceLT, Nat.reduceLeDiff, Nat.reduceBEq, Nat.reduceBNe, reduceCtorEq, Int.reduceEq, Int.reduceNe, Int.reduceLT, Int.reduceLE, Int.reduceToNat, Int.reduceNeg, Int.reduceAdd, Int.reduceSub, Int.reduceMul, Int.reducePow, Nat.reducePow, Int.reduceBEq, M21, hp, hlt, hne, hne', a, q1, q2, and7 P.reg hr0.1 hr0.2, e4, IntKind.bits, e1, e2, e3, Po.blk, Po.cells, Po.asks, hs, n1, n2, isPo, rdPo, c59, hg, f1, f2, f3, f4, Po.sent, Po.quick]
    · simp (maxDischargeDepth := 9) -implicitDefEqProofs only [push_cast, reduceIte, Nat.reduceEqDiff, Nat.reduceAdd, Nat.reduceSub, Nat.reduceMul, Nat.reduceDiv, Nat.reduceMod, Nat.reduceLT, Nat.reduceLeDiff, Nat.reduceBEq, Nat.reduceBNe, reduceCtorEq, Int.reduceEq, Int.reduceNe, Int.reduceLT, Int.reduceLE, Int.reduceToNat, Int.reduceNeg, Int.reduceAdd, Int.reduceSub, Int.reduceMul, Int.reducePow, Nat.reducePow, Int.reduceBEq, M21, hp, hlt, hne, hne', a, q1, q2, and7 P.reg hr0.1 hr0.2, e4, IntKind.bits, e1, e2, e3, Po.blk, Po.cells, Po.asks, hs, n1, n2, isPo, rdPo, c59, hg, f1, f2, f3, f4, Po.sent, Po.quick]
  · simp (maxDischargeDepth := 9) -implicitDefEqProofs only [push_cast, reduceIte, Nat.reduceEqDiff, Nat.reduceAdd, Nat.reduceSub, Nat.reduceMul, Nat.reduceDiv, Nat.reduceMod, Nat.reduceLT, Nat.reduceLeDiff, Nat.reduceBEq, Nat.reduceBNe, reduceCtorEq, Int.reduceEq, Int.reduceNe, Int.reduceLT, Int.reduceLE, Int.reduceToNat, Int.reduceNeg, Int.reduceAdd, Int.reduceSub, Int.reduceMul, Int.reducePow, Nat.reducePow, Int.reduceBEq, M21, hp, hlt, hne, hne', a, q1, and7 P.reg hr0.1 hr0.2, e4, IntKind.bits, e1, e2, e3, Po.blk, Po.cells, Po.asks, hs, n1, n2, isPo, rdPo, c59, hg, f1, f2, f3, f4, Po.sent, Po.quick]

theorem c18 {good : Bool} (hi : isPo h[p]? = true) (ok : (rdPo h[p]?).ok) (hs : (rdPo h[p]?).stopped = false) :
    W C 18 [.ptr p 0, .bool good] h = some (.int .i64 0, h.set p ((rdPo h[p]?).got good).blk, [p]) := by
  have a := c56 hg hi ok.m
  obtain ⟨P, hp, hr⟩ := isPo_elim hi
  rw [hr] at ok hs a ⊢
  have hlt : p < h.length := (List.getElem?_eq_some_iff.1 hp).1
  have hr0 := ok.r; have hq0 := ok.q; have hf0 := ok.f; have hs0 := ok.s
  have e1 : (IntKind.i64.wrap (P.steady + 1)) = P.steady + 1 := wr_i64 _ (by omega) (by omega)
  have e2 : (IntKind.i64.wrap (P.exp - 1)) = P.exp - 1 := wr_i64 _ (by omega) (by omega)
  have e3 : (IntKind.i64.wrap (P.exp + 1)) = P.exp + 1 := wr_i64 _ (by omega) (by omega)
  refine W_set0 (m := M18) rfl rfl rfl rfl rfl hg hlt rfl rfl ?_
  have e4 := or1 P.reg hr0.1 hr0.2
  cases good
  · by_cases q1 : P.floor < P.exp - 1
    · have q2 : ¬ P.exp - 1 < P.floor := by omega
      simp (maxDischargeDepth := 9) -implicitDefEqProofs only [push_cast, reduceIte, Nat.reduceEqDiff, Nat.reduceAdd, Nat.reduceSub, Nat.reduceMul, Nat.reduceDiv, Nat.reduceMod, Nat.reduceLT, Nat.reduceLeDiff, Nat.reduceBEq, Nat.reduceBNe, reduceCtorEq, Int.reduceEq, Int.reduceNe, Int.reduceLT, Int.reduceLE, Int.reduceToNat, Int.reduceNeg, Int.reduceAdd, Int.reduceSub, Int.reduceMul, Int.reducePow, Nat.reducePow, Int.reduceBEq, M18, hp, hlt, a, e1, e2, e3, e4, Po.blk, Po.cells, Po.asks, hs, hg, Po.got, q1, q2]
    · by_cases q2 : P.floor = P.exp - 1
      · simp (maxDischargeDepth := 9) -implicitDefEqProofs only [push_cast, reduceIte, Nat.reduceEqDiff, Nat.reduceAdd, Nat.reduceSub, Nat.reduceMul, Nat.reduceDiv, Nat.reduceMod, Nat.reduceLT, Nat.reduceLeDiff, Nat.reduceBEq, Nat.reduceBNe, reduceCtorEq, Int.reduceEq, Int.reduceNe, Int.reduceLT, Int.reduceLE, Int.reduceToNat, Int.reduceNeg, Int.reduceAdd, Int.reduceSub, Int.reduceMul, Int.reducePow, Nat.reducePow, Int.reduceBEq, M18, hp, hlt, a, e1, e2, e3, e4, Po.blk, Po.cells, Po.asks, hs, hg, Po.got, q2]
      · have q3 : P.exp - 1 < P.floor := by omega
        simp (maxDischargeDepth := 9) -implicitDefEqProofs only [push_cast, reduceIte, Nat.reduceEqDiff, Nat.reduceAdd, Nat.reduceSub, Nat.reduceMul, Nat.reduceDiv, Nat.reduceMod, Nat.reduceLT, Nat.reduceLeDiff, Nat.reduceBEq, Nat.reduceBNe, reduceCtorEq, Int.reduceEq, Int.reduceNe, Int.reduceLT, Int.reduceLE, Int.reduceToNat, Int.reduceNeg, Int.reduceAdd, Int.reduceSub, Int.reduceMul, Int.reducePow, Nat.reducePow, Int.reduceBEq, M18, hp, hlt, a, e1, e2, e3, e4, Po.blk, Po.cells, Po.asks, hs, hg, Po.got, q1, q3]
  · by_cases q0 : P.steady + 1 = 8
    · by_cases q1 : P.exp + 1 < P.most
      · have q2 : ¬ P.most < P.exp + 1 := by omega
        simp (maxDischargeDepth := 9) -implicitDefEqProofs only [push_cast, reduceIte, Nat.reduceEqDiff, Nat.reduceAdd, Nat.reduceSub, Nat.reduceMul, Nat.reduceDiv, Nat.reduceMod, Nat.reduceLT, Nat.reduceLeDiff, Nat.reduceBEq, Nat.reduceBNe, reduceCtorEq, Int.reduceEq, Int.reduceNe, Int.reduceLT, Int.reduceLE, Int.reduceToNat, Int.reduceNeg, Int.reduceAdd, Int.reduceSub, Int.reduceMul, Int.reducePow, Nat.reducePow, Int.reduceBEq, M18, hp, hlt, a, e1, e2, e3, e4, Po.blk, Po.cells, Po.asks, hs, hg, Po.got, q0, q1, q2]
      · by_cases q2 : P.most = P.exp + 1
        · simp (maxDischargeDepth := 9) -implicitDefEqProofs only [push_cast, reduceIte, Nat.reduceEqDiff, Nat.reduceAdd, Nat.reduceSub, Nat.reduceMul, Nat.reduceDiv, Nat.reduceMod, Nat.reduceLT, Nat.reduceLeDiff, Nat.reduceBEq, Nat.reduceBNe, reduceCtorEq, Int.reduceEq, Int.reduceNe, Int.reduceLT, Int.reduceLE, Int.reduceToNat, Int.reduceNeg, Int.reduceAdd, Int.reduceSub, Int.reduceMul, Int.reducePow, Nat.reducePow, Int.reduceBEq, M18, hp, hlt, a, e1, e2, e3, e4, Po.blk, Po.cells, Po.asks, hs, hg, Po.got, q0, q2]
        · have q3 : P.most < P.exp + 1 := by omega
          simp (maxDischargeDepth := 9) -implicitDefEqProofs only [push_cast, reduceIte, Nat.reduceEqDiff, Nat.reduceAdd, Nat.reduceSub, Nat.reduceMul, Nat.reduceDiv, Nat.reduceMod, Nat.reduceLT, Nat.reduceLeDiff, Nat.reduceBEq, Nat.reduceBNe, reduceCtorEq, Int.reduceEq, Int.reduceNe, Int.reduceLT, Int.reduceLE, Int.reduceToNat, Int.reduceNeg, Int.reduceAdd, Int.reduceSub, Int.reduceMul, Int.reducePow, Nat.reducePow, Int.reduceBEq, M18, hp, hlt, a, e1, e2, e3, e4, Po.blk, Po.cells, Po.asks, hs, hg, Po.got, q0, q1, q3]
    · simp (maxDischargeDepth := 9) -implicitDefEqProofs only [push_cast, reduceIte, Nat.reduceEqDiff, Nat.reduceAdd, Nat.reduceSub, Nat.reduceMul, Nat.reduceDiv, Nat.reduceMod, Nat.reduceLT, Nat.reduceLeDiff, Nat.reduceBEq, Nat.reduceBNe, reduceCtorEq, Int.reduceEq, Int.reduceNe, Int.reduceLT, Int.reduceLE, Int.reduceToNat, Int.reduceNeg, Int.reduceAdd, Int.reduceSub, Int.reduceMul, Int.reducePow, Nat.reducePow, Int.reduceBEq, M18, hp, hlt, a, e1, e2, e3, e4, Po.blk, Po.cells, Po.asks, hs, hg, Po.got, q0]

theorem c24 {n : Int} (hi : isPo h[p]? = true) (ok : (rdPo h[p]?).ok) (hs : (rdPo h[p]?).stopped = false) (h0 : 4 ≤ n) (h1 : n ≤ 10) :
    W C 24 [.ptr p 0, .int .i64 n] h = some (.int .i64 0, h.set p ((rdPo h[p]?).rate n).blk, [p]) := by
  have a := a56 (now := n) hg 60 hi ok.m (fun h' hg' hq => c60 hg' hq)
  obtain ⟨P, hp, hr⟩ := isPo_elim hi
  rw [hr] at ok hs a ⊢
  have hlt : p < h.length := (List.getElem?_eq_some_iff.1 hp).1
  have hne : ¬ p = h.length := by omega
  have hne' : ¬ h.length = p := by omega
  have hr0 := ok.r; have hq0 := ok.q; have hf0 := ok.f; have hl0 := ok.l
  have n1 : ¬ n < 4 := by omega
  have n2 : ¬ 10 < n := by omega
  have mx : ∀ a b : Int, (if b > a then b else a) = if a < b then b else a := fun a b => rfl
  refine W_set (m := M24) (js := [⟨.tip false, .ints .i64 [n]⟩, ⟨.tip false, .vals [.fn 60 [.ptr h.length 0]]⟩]) rfl rfl rfl rfl rfl hg hlt rfl rfl ?_
  have f0 : 0 ≤ (if P.exp < n then n else P.exp) ∧ (if P.exp < n then n else P.exp) ≤ 10 := by split <;> omega
  generalize he : (if P.exp < n then n else P.exp) = e at f0
  have f1 := f0.1; have f2 := f0.2
  have pw := pow_le f1 f2
  have e2 : (IntKind.i64.wrap (P.last + 1000000000 * 2 ^ e.toNat)) = P.last + 1000000000 * 2 ^ e.toNat := wr_i64 _ (by omega) (by omega)
  by_cases q1 : 0 < P.req
  · simp (maxDischargeDepth := 9) -implicitDefEqProofs only [push_cast, reduceIte, Nat.reduceEqDiff, Nat.reduceAdd, Nat.reduceSub, Nat.reduceMul, Nat.reduceDiv, Nat.reduceMod, Nat.reduceLT, Nat.reduceLeDiff, Nat.reduceBEq, Nat.reduceBNe, reduceCtorEq, Int.reduceEq, Int.reduceNe, Int.reduceLT, Int.reduceLE, Int.reduceToNat, Int.reduceNeg, Int.reduceAdd, Int.reduceSub, Int.reduceMul, Int.reducePow, Nat.reducePow, Int.reduceBEq, M24, hp, hlt, hne, hne', a, e2, Po.blk, Po.cells, Po.asks, hs, n1, n2, isPo, rdPo, c59, hg, f1, f2, q1, Po.rate, he]
  · simp (maxDischargeDepth := 9) -implicitDefEqProofs only [push_cast, reduceIte, Nat.reduceEqDiff, Nat.reduceAdd, Nat.reduceSub, Nat.reduceMul, Nat.reduceDiv, Nat.reduceMod, Nat.reduceLT, Nat.reduceLeDiff, Nat.reduceBEq, Nat.reduceBNe, reduceCtorEq, Int.reduceEq, Int.reduceNe, Int.reduceLT, Int.reduceLE, Int.reduceToNat, Int.reduceNeg, Int.reduceAdd, Int.reduceSub, Int.reduceMul, Int.reducePow, Nat.reducePow, Int.reduceBEq, M24, hp, hlt, hne, hne', a, e2, Po.blk, Po.cells, Po.asks, hs, n1, n2, isPo, rdPo, c59, hg, f1, f2, q1, Po.rate, he]
end

theorem c15 (h : AHeap) {least most first : Int} (h1 : 4 ≤ least) (h2 : least ≤ most) (h3 : most ≤ 10) (h4 : 0 ≤ first) (h5 : first ≤ 4611686018427387904) :
    W C 15 [.int .i64 least, .int .i64 most, .int .i64 first] h = some (.tup [.ptr h.length 0, .int .i64 0], h ++ [(Po.new least most first).blk], []) := by
  have key : ∀ g : AHeap, xbody (W C) M15 [.int .i64 least, .int .i64 most, .int .i64 first] g = some (.tup [.ptr g.length 0, .int .i64 0], g ++ [(Po.new least most first).blk], []) := by
    intro g
    have n1 : ¬ least < 4 := by omega
    have n2 : ¬ most < least := by omega
    have n3 : ¬ 10 < most := by omega
    have n4 : ¬ first < 0 := by omega
    have n5 : ¬ 4611686018427387904 < first := by omega
    simp (maxDischargeDepth := 9) -implicitDefEqProofs only [push_cast, reduceIte, Nat.reduceEqDiff, Nat.reduceAdd, Nat.reduceSub, Nat.reduceMul, Nat.reduceDiv, Nat.reduceMod, Nat.reduceLT, Nat.reduceLeDiff, Nat.reduceBEq, Nat.reduceBNe, reduceCtorEq, Int.reduceEq, Int.reduceNe, Int.reduceLT, Int.reduceLE, Int.reduceToNat, Int.reduceNeg, Int.reduceAdd, Int.reduceSub, Int.reduceMul, Int.reducePow, Nat.reducePow, Int.reduceBEq, M15, n1, n2, n3, n4, n5, Po.blk, Po.cells, Po.new]
  rw [W_made (m := M15) rfl rfl rfl (key _) rfl (key h)]
  have : trimR h.length (.tup [.ptr h.length 0, .int .i64 0], h ++ [(Po.new least most first).blk], []) = (.tup [.ptr h.length 0, .int .i64 0], h ++ [(Po.new least most first).blk], []) := by
    unfold trimR
    rw [if_neg]
    simp (maxDischargeDepth := 9) -implicitDefEqProofs only [push_cast, reduceIte, Nat.reduceEqDiff, Nat.reduceAdd, Nat.reduceSub, Nat.reduceMul, Nat.reduceDiv, Nat.reduceMod, Nat.reduceLT, Nat.reduceLeDiff, Nat.reduceBEq, Nat.reduceBNe, reduceCtorEq, Int.reduceEq, Int.reduceNe, Int.reduceLT, Int.reduceLE, Int.reduceToNat, Int.reduceNeg, Int.reduceAdd, Int.reduceSub, Int.reduceMul, Int.reducePow, Nat.reducePow, Int.reduceBEq, AV.lt, AV.lts]
  rw [this]; rfl

theorem c16 (h : AHeap) : W C 16 [] h = some (.bool true, h, []) := W_known (n := 60) (fun _ => rfl) (by kernel_rfl) h
end Go.Proofs.YtimlhgpjmjmjhaaW.AI.B
