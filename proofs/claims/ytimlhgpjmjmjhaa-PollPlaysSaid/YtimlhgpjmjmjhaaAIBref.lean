import Derived.Test.YtimlhgpjmjmjhaaAIBpfacts
namespace Go.Proofs.YtimlhgpjmjmjhaaW.AI.B
open Go Go.Proofs.YtimlhgpjmjmjhaaW.AI
set_option maxRecDepth 100000
set_option linter.unusedSimpArgs false
set_option linter.unusedVariables false
set_option linter.unusedSectionVars false

-- what stands behind the front of a heap
theorem kill_get {b i : Nat} {h : AHeap} {x : ABlk} (hx : h[i]? = some x) (hs : x.st ≠ .old b) : (kill b h)[i]? = some x := by
  unfold kill
  rw [List.getElem?_map, hx, Option.map_some, if_neg hs]
theorem reTip_get {b j i : Nat} {h : AHeap} {x : ABlk} (hx : h[i]? = some x) (hs : x.st ≠ .old b) : (reTip b j h)[i]? = some x := by
  unfold reTip
  rw [List.getElem?_map, hx, Option.map_some, if_neg hs]
theorem kill_len (b : Nat) (h : AHeap) : (kill b h).length = h.length := by simp [kill]
theorem reTip_len (b j : Nat) (h : AHeap) : (reTip b j h).length = h.length := by simp [reTip]
theorem kill_good {b : Nat} {h : AHeap} (hg : Good h) : Good (kill b h) := by
  unfold Good at *
  rw [kill_len]
  refine List.all_eq_true.2 fun x hx => ?_
  unfold kill at hx
  obtain ⟨y, hy, rfl⟩ := List.mem_map.1 hx
  split
  · rfl
  · exact List.all_eq_true.1 hg y hy

structure Re where
  least : Int
  most : Int
  exp : Int
  ans : List Bool
  sl : AV
  steady : Int
  last : Int
  next : Int
  stopped : Bool
  early : Bool
def Re.cells (R : Re) : ACells := .vals [.int .i64 R.least, .int .i64 R.most, .int .i64 R.exp, R.sl, .int .i64 R.steady, .int .i64 R.last, .int .i64 R.next, .bool R.stopped, .bool R.early]
def Re.blk (R : Re) : ABlk := ⟨.tip false, R.cells⟩
theorem notOld_Re (R : Re) : notOld R.blk = true := rfl

/-- The block of the answers, if there are any. -/
def isAns (R : Re) (b : Nat) : Prop := ∃ o n e mn, R.sl = .gsl b o n e mn

def AnsAt (h : AHeap) (sl : AV) (ans : List Bool) : Prop :=
  (sl = .nils ∧ ans = []) ∨ ∃ b o mn, sl = .gsl b 0 ans.length 1 mn ∧ ans ≠ [] ∧ b < h.length ∧ h[b]? = some ⟨.tip o, .vals (ans.map AV.bool)⟩
theorem AnsAt.len {h sl ans} (a : AnsAt h sl ans) : slen sl = some ans.length := by
  rcases a with ⟨rfl, rfl⟩ | ⟨b, o, mn, rfl, _⟩ <;> rfl

structure RefAt (h : AHeap) (r : Nat) (R : Re) : Prop where
  blk : h[r]? = some R.blk
  lt : r < h.length
  ans : AnsAt h R.sl R.ans
  ne : ¬ isAns R r

/-- What a call leaves alone. -/
structure Left (R : Re) (r : Nat) (h : AHeap) (R' : Re) (h' : AHeap) : Prop where
  at_ : RefAt h' r R'
  good : Good h'
  len : h.length ≤ h'.length
  keep : ∀ (i : Nat) (x : ABlk), i ≠ r → ¬ isAns R i → h[i]? = some x → (∀ t, x.st ≠ .old t) → h'[i]? = some x
  newer : ∀ b, isAns R' b → isAns R b ∨ h.length ≤ b

/-- What is changed in its own block alone. -/
theorem Left.own {R R' : Re} {r : Nat} {h : AHeap} (a : RefAt h r R) (hg : Good h) (h1 : R'.sl = R.sl) (h2 : R'.ans = R.ans) : Left R r h R' (h.set r R'.blk) := by
  have hi : ∀ b, isAns R' b ↔ isAns R b := fun b => by unfold isAns; rw [h1]
  refine ⟨⟨List.getElem?_set_self a.lt, by simpa using a.lt, ?_, fun h => a.ne ((hi r).1 h)⟩, good_set hg rfl, by simp, fun i x hir _ hx _ => by rw [List.getElem?_set_ne (Ne.symm hir)]; exact hx, fun b hb => Or.inl ((hi b).1 hb)⟩
  rw [h1, h2]
  rcases a.ans with ⟨e1, e2⟩ | ⟨b, o, mn, e1, e2, e3, e4⟩
  · exact Or.inl ⟨e1, e2⟩
  · refine Or.inr ⟨b, o, mn, e1, e2, by simpa using e3, ?_⟩
    rw [List.getElem?_set_ne (fun h => a.ne ⟨0, _, _, _, by rw [e1, h]⟩)]; exact e4

theorem c61 {n : Int} (h0 : 0 ≤ n) (h1 : n ≤ 10) (h : AHeap) : W C 61 [.int .i64 n] h = some (.int .i64 (1000000000 * 2 ^ n.toNat), h, []) := by
  have : n = 0 ∨ n = 1 ∨ n = 2 ∨ n = 3 ∨ n = 4 ∨ n = 5 ∨ n = 6 ∨ n = 7 ∨ n = 8 ∨ n = 9 ∨ n = 10 := by omega
  rcases this with rfl | rfl | rfl | rfl | rfl | rfl | rfl | rfl | rfl | rfl | rfl
  all_goals exact W_known (n := 60) (fun _ => rfl) (by kernel_rfl) h

/-- The bits of the register, all of them. -/
def bitsOf (n : Int) : List Bool → Int
  | [] => n
  | b :: l => bitsOf (n * 2 + (if b then 1 else 0)) l
theorem bitsOf_app (n : Int) : ∀ (l m : List Bool), bitsOf n (l ++ m) = bitsOf (bitsOf n l) m
  | [], m => rfl
  | b :: l, m => by simp only [List.cons_append, bitsOf]; exact bitsOf_app _ l m
theorem bitsOf_snoc (n : Int) (l : List Bool) (b : Bool) : bitsOf n (l ++ [b]) = bitsOf n l * 2 + (if b then 1 else 0) := by rw [bitsOf_app]; rfl
theorem bitsOf_add (n : Int) : ∀ l : List Bool, bitsOf n l = n * 2 ^ l.length + bitsOf 0 l
  | [] => by simp [bitsOf]
  | b :: l => by
    simp only [bitsOf, List.length_cons]
    rw [bitsOf_add (n * 2 + _) l, bitsOf_add (0 * 2 + _) l]
    generalize bitsOf 0 l = y
    generalize (if b then (1 : Int) else 0) = c
    rw [Int.pow_succ]
    generalize (2 : Int) ^ l.length = p
    have e1 : (n * 2 + c) * p = n * (p * 2) + c * p := by rw [Int.add_mul, Int.mul_assoc, Int.mul_comm 2 p]
    have e2 : (0 * 2 + c) * p = c * p := by rw [Int.zero_mul, Int.zero_add]
    omega
theorem bitsOf_nn {n : Int} (h : 0 ≤ n) : ∀ l : List Bool, 0 ≤ bitsOf n l
  | [] => h
  | b :: l => bitsOf_nn (by cases b <;> simp <;> omega) l

/-- The document's register. -/
def Re.reach (R : Re) : Int := bitsOf (if R.early then 1 else 0) R.ans % 256

section
variable {h : AHeap} {r : Nat} {R : Re} (hg : Good h) (a : RefAt h r R)
include hg a

theorem c33 {now : Int} : W C 33 [.ptr r 0, .int .i64 now] h = some (.bool (!R.stopped && decide (R.next ≤ now)), h, []) := by
  have hb := a.blk
  have hn := na_slen a.ans.len
  refine W_quiet0 (m := M33) rfl rfl rfl rfl rfl hg ?_
  cases hs : R.stopped
  all_goals simp (maxDischargeDepth := 9) -implicitDefEqProofs only [push_cast, reduceIte, Nat.reduceEqDiff, Nat.reduceAdd, Nat.reduceSub, Nat.reduceMul, Nat.reduceDiv, Nat.reduceMod, Nat.reduceLT, Nat.reduceLeDiff, Nat.reduceBEq, Nat.reduceBNe, reduceCtorEq, Int.reduceEq, Int.reduceNe, Int.reduceLT, Int.reduceLE, Int.reduceToNat, Int.reduceNeg, Int.reduceAdd, Int.reduceSub, Int.reduceMul, Int.reducePow, Nat.reducePow, Int.reduceBEq, M33, hb, Re.blk, Re.cells, hs]

theorem c29_bad {n : Int} (hn : n < 4 ∨ 10 < n) : W C 29 [.ptr r 0, .int .i64 n] h = some (.int .i64 1, h, []) := by
  refine W_quiet0 (m := M29) rfl rfl rfl rfl rfl hg ?_
  by_cases h4 : n < 4
  · simp (maxDischargeDepth := 9) -implicitDefEqProofs only [push_cast, reduceIte, Nat.reduceEqDiff, Nat.reduceAdd, Nat.reduceSub, Nat.reduceMul, Nat.reduceDiv, Nat.reduceMod, Nat.reduceLT, Nat.reduceLeDiff, Nat.reduceBEq, Nat.reduceBNe, reduceCtorEq, Int.reduceEq, Int.reduceNe, Int.reduceLT, Int.reduceLE, Int.reduceToNat, Int.reduceNeg, Int.reduceAdd, Int.reduceSub, Int.reduceMul, Int.reducePow, Nat.reducePow, Int.reduceBEq, M29, h4]
  · have h10 : 10 < n := by omega
    simp (maxDischargeDepth := 9) -implicitDefEqProofs only [push_cast, reduceIte, Nat.reduceEqDiff, Nat.reduceAdd, Nat.reduceSub, Nat.reduceMul, Nat.reduceDiv, Nat.reduceMod, Nat.reduceLT, Nat.reduceLeDiff, Nat.reduceBEq, Nat.reduceBNe, reduceCtorEq, Int.reduceEq, Int.reduceNe, Int.reduceLT, Int.reduceLE, Int.reduceToNat, Int.reduceNeg, Int.reduceAdd, Int.reduceSub, Int.reduceMul, Int.reducePow, Nat.reducePow, Int.reduceBEq, M29, h4, h10]
theorem c29_stop {n : Int} (h4 : ¬ n < 4) (h10 : ¬ 10 < n) (hs : R.stopped = true) : W C 29 [.ptr r 0, .int .i64 n] h = some (.int .i64 35, h, []) := by
  have hb := a.blk
  refine W_quiet0 (m := M29) rfl rfl rfl rfl rfl hg ?_
  simp (maxDischargeDepth := 9) -implicitDefEqProofs only [push_cast, reduceIte, Nat.reduceEqDiff, Nat.reduceAdd, Nat.reduceSub, Nat.reduceMul, Nat.reduceDiv, Nat.reduceMod, Nat.reduceLT, Nat.reduceLeDiff, Nat.reduceBEq, Nat.reduceBNe, reduceCtorEq, Int.reduceEq, Int.reduceNe, Int.reduceLT, Int.reduceLE, Int.reduceToNat, Int.reduceNeg, Int.reduceAdd, Int.reduceSub, Int.reduceMul, Int.reducePow, Nat.reducePow, Int.reduceBEq, M29, h4, h10, hb, Re.blk, Re.cells, hs]
theorem c28_stop {g : Bool} (hs : R.stopped = true) : W C 28 [.ptr r 0, .bool g] h = some (.int .i64 35, h, []) := by
  have hb := a.blk
  refine W_quiet0 (m := M28) rfl rfl rfl rfl rfl hg ?_
  simp (maxDischargeDepth := 9) -implicitDefEqProofs only [push_cast, reduceIte, Nat.reduceEqDiff, Nat.reduceAdd, Nat.reduceSub, Nat.reduceMul, Nat.reduceDiv, Nat.reduceMod, Nat.reduceLT, Nat.reduceLeDiff, Nat.reduceBEq, Nat.reduceBNe, reduceCtorEq, Int.reduceEq, Int.reduceNe, Int.reduceLT, Int.reduceLE, Int.reduceToNat, Int.reduceNeg, Int.reduceAdd, Int.reduceSub, Int.reduceMul, Int.reducePow, Nat.reducePow, Int.reduceBEq, M28, hb, Re.blk, Re.cells, hs]
theorem c27_bad {n : Int} (hn : n < 0 ∨ 4611686018427387904 < n) : W C 27 [.ptr r 0, .int .i64 n] h = some (.int .i64 1, h, []) := by
  refine W_quiet0 (m := M27) rfl rfl rfl rfl rfl hg ?_
  by_cases h4 : n < 0
  · simp (maxDischargeDepth := 9) -implicitDefEqProofs only [push_cast, reduceIte, Nat.reduceEqDiff, Nat.reduceAdd, Nat.reduceSub, Nat.reduceMul, Nat.reduceDiv, Nat.reduceMod, Nat.reduceLT, Nat.reduceLeDiff, Nat.reduceBEq, Nat.reduceBNe, reduceCtorEq, Int.reduceEq, Int.reduceNe, Int.reduceLT, Int.reduceLE, Int.reduceToNat, Int.reduceNeg, Int.reduceAdd, Int.reduceSub, Int.reduceMul, Int.reducePow, Nat.reducePow, Int.reduceBEq, M27, h4]
  · have h10 : 4611686018427387904 < n := by omega
    simp (maxDischargeDepth := 9) -implicitDefEqProofs only [push_cast, reduceIte, Nat.reduceEqDiff, Nat.reduceAdd, Nat.reduceSub, Nat.reduceMul, Nat.reduceDiv, Nat.reduceMod, Nat.reduceLT, Nat.reduceLeDiff, Nat.reduceBEq, Nat.reduceBNe, reduceCtorEq, Int.reduceEq, Int.reduceNe, Int.reduceLT, Int.reduceLE, Int.reduceToNat, Int.reduceNeg, Int.reduceAdd, Int.reduceSub, Int.reduceMul, Int.reducePow, Nat.reducePow, Int.reduceBEq, M27, h4, h10]
theorem c27_stop {n : Int} (h4 : ¬ n < 0) (h10 : ¬ 4611686018427387904 < n) (hs : R.stopped = true) : W C 27 [.ptr r 0, .int .i64 n] h = some (.int .i64 35, h, []) := by
  have hb := a.blk
  refine W_quiet0 (m := M27) rfl rfl rfl rfl rfl hg ?_
  simp (maxDischargeDepth := 9) -implicitDefEqProofs only [push_cast, reduceIte, Nat.reduceEqDiff, Nat.reduceAdd, Nat.reduceSub, Nat.reduceMul, Nat.reduceDiv, Nat.reduceMod, Nat.reduceLT, Nat.reduceLeDiff, Nat.reduceBEq, Nat.reduceBNe, reduceCtorEq, Int.reduceEq, Int.reduceNe, Int.reduceLT, Int.reduceLE, Int.reduceToNat, Int.reduceNeg, Int.reduceAdd, Int.reduceSub, Int.reduceMul, Int.reducePow, Nat.reducePow, Int.reduceBEq, M27, h4, h10, hb, Re.blk, Re.cells, hs]
end

def Re.rate (R : Re) (least : Int) : Re :=
  let e := if R.exp < least then least else R.exp
  { R with least := if R.least < least then least else R.least, exp := e, most := if R.most < least then least else R.most, steady := 0,
           next := if R.ans ≠ [] ∧ R.next < R.last + 1000000000 * 2 ^ e.toNat then R.last + 1000000000 * 2 ^ e.toNat else R.next }

theorem Re.blk_lt {R : Re} {n : Nat} (h1 : R.sl.lt n = true) (h2 : R.sl.isCell = true) : R.blk.c.lt n = true := by
  unfold Re.blk Re.cells ACells.lt
  simp only [AV.lts, AV.lt, List.all_cons, List.all_nil, h1, h2, ic_int, ic_bool, Bool.and_true]
theorem Re.blk_nlt {R : Re} {n : Nat} (h1 : R.sl.lt n = false) : R.blk.c.lt n = false := by
  unfold Re.blk Re.cells ACells.lt
  simp only [AV.lts, AV.lt, h1, Bool.and_false, Bool.false_and, Bool.true_and]
theorem AnsAt.cell {h sl ans} (a : AnsAt h sl ans) : sl.lt h.length = true ∧ sl.isCell = true := by
  rcases a with ⟨e1, _⟩ | ⟨b, o, mn, e1, _, e3, _⟩
  · rw [e1]; exact ⟨rfl, rfl⟩
  · rw [e1]; exact ⟨by simp [AV.lt, e3], rfl⟩
set_option maxHeartbeats 4000000 in
theorem c29 {h : AHeap} {r : Nat} {R : Re} (hg : Good h) (a : RefAt h r R) {n : Int} (h4 : ¬ n < 4) (h10 : ¬ 10 < n) (hs : R.stopped = false) (hx : 0 ≤ R.exp ∧ R.exp ≤ 10) (hl : 0 ≤ R.last ∧ R.last ≤ 4611686018427387904) :
    W C 29 [.ptr r 0, .int .i64 n] h = some (.int .i64 0, h.set r (R.rate n).blk, [r]) := by
  have hb := a.blk
  have hlt := a.lt
  have hsl := a.ans.len
  have hna := na_slen hsl
  have f0 : 0 ≤ (if R.exp < n then n else R.exp) ∧ (if R.exp < n then n else R.exp) ≤ 10 := by split <;> omega
  obtain ⟨e, he⟩ : ∃ e, (if R.exp < n then n else R.exp) = e := ⟨_, rfl⟩
  rw [he] at f0
  have f1 := f0.1; have f2 := f0.2
  have pw := pow_le f1 f2
  have e2 : (IntKind.i64.wrap (R.last + 1000000000 * 2 ^ e.toNat)) = R.last + 1000000000 * 2 ^ e.toNat := wr_i64 _ (by omega) (by omega)
  have hlts : R.sl.lt h.length = true ∧ R.sl.isCell = true := by
    rcases a.ans with ⟨e1, _⟩ | ⟨b, o, mn, e1, _, e3, _⟩
    · rw [e1]; exact ⟨rfl, rfl⟩
    · rw [e1]; exact ⟨by simp [AV.lt, e3], rfl⟩
  have hl1 := hlts.1
  have hl2 := hlts.2
  refine W_set0 (m := M29) rfl rfl rfl rfl rfl hg hlt rfl ?_ ?_
  · exact Re.blk_lt (R := R.rate n) hl1 hl2
  · have sets : ∀ x : Int, (if x < n then n else x) = x ∨ (if x < n then n else x) = n := fun x => by split <;> simp
    by_cases q0 : R.ans = []
    · have hz : R.ans.length = 0 := by rw [q0]; rfl
      by_cases q1 : R.exp < n <;> by_cases q2 : R.least < n <;> by_cases q3 : R.most < n
      all_goals simp (maxDischargeDepth := 9) -implicitDefEqProofs only [push_cast, reduceIte, Nat.reduceEqDiff, Nat.reduceAdd, Nat.reduceSub, Nat.reduceMul, Nat.reduceDiv, Nat.reduceMod, Nat.reduceLT, Nat.reduceLeDiff, Nat.reduceBEq, Nat.reduceBNe, reduceCtorEq, Int.reduceEq, Int.reduceNe, Int.reduceLT, Int.reduceLE, Int.reduceToNat, Int.reduceNeg, Int.reduceAdd, Int.reduceSub, Int.reduceMul, Int.reducePow, Nat.reducePow, Int.reduceBEq, M29, hb, hlt, hsl, hna, hs, h4, h10, hg, Re.blk, Re.cells, Re.rate, q0, hz, q1, q2, q3]
    · have hnl : ¬ h.length ≤ r := by omega
      have hz : 0 < R.ans.length := List.length_pos_iff.2 q0
      have hz' : (0 : Int) < (R.ans.length : Int) := by omega
      by_cases q1 : R.exp < n
      · rw [if_pos q1] at he; subst he
        by_cases q2 : R.least < n <;> by_cases q3 : R.most < n <;> by_cases q4 : R.next < R.last + 1000000000 * 2 ^ n.toNat
        all_goals simp (maxDischargeDepth := 9) -implicitDefEqProofs only [push_cast, reduceIte, Nat.reduceEqDiff, Nat.reduceAdd, Nat.reduceSub, Nat.reduceMul, Nat.reduceDiv, Nat.reduceMod, Nat.reduceLT, Nat.reduceLeDiff, Nat.reduceBEq, Nat.reduceBNe, reduceCtorEq, Int.reduceEq, Int.reduceNe, Int.reduceLT, Int.reduceLE, Int.reduceToNat, Int.reduceNeg, Int.reduceAdd, Int.reduceSub, Int.reduceMul, Int.reducePow, Nat.reducePow, Int.reduceBEq, M29, hb, hlt, hsl, hna, hs, h4, h10, hg, Re.blk, Re.cells, Re.rate, q0, hnl, hz, hz', q1, q2, q3, q4, c61, f1, f2, e2]
      · rw [if_neg q1] at he; subst he
        by_cases q2 : R.least < n <;> by_cases q3 : R.most < n <;> by_cases q4 : R.next < R.last + 1000000000 * 2 ^ R.exp.toNat
        all_goals simp (maxDischargeDepth := 9) -implicitDefEqProofs only [push_cast, reduceIte, Nat.reduceEqDiff, Nat.reduceAdd, Nat.reduceSub, Nat.reduceMul, Nat.reduceDiv, Nat.reduceMod, Nat.reduceLT, Nat.reduceLeDiff, Nat.reduceBEq, Nat.reduceBNe, reduceCtorEq, Int.reduceEq, Int.reduceNe, Int.reduceLT, Int.reduceLE, Int.reduceToNat, Int.reduceNeg, Int.reduceAdd, Int.reduceSub, Int.reduceMul, Int.reducePow, Nat.reducePow, Int.reduceBEq, M29, hb, hlt, hsl, hna, hs, h4, h10, hg, Re.blk, Re.cells, Re.rate, q0, hnl, hz, hz', q1, q2, q3, q4, c61, f1, f2, e2]

-- Got
def setLast : List Bool → List Bool
  | [] => []
  | l => l.dropLast ++ [true]
def Re.marked (R : Re) : Re := if R.ans = [] then { R with early := true } else { R with ans := setLast R.ans }
def Re.got (R : Re) (good : Bool) : Re :=
  let S := R.marked
  if good then
    if R.steady + 1 = 8 then { S with steady := 0, exp := if R.exp < R.most then R.exp + 1 else R.exp }
    else { S with steady := R.steady + 1 }
  else { S with steady := 0, exp := if R.least < R.exp then R.exp - 1 else R.exp }
theorem got_sl (R : Re) (g : Bool) : (R.got g).sl = R.sl := by
  unfold Re.got Re.marked; cases g <;> by_cases h : R.ans = [] <;> by_cases h8 : R.steady + 1 = 8 <;> simp [h, h8]

theorem setLast_len (l : List Bool) : (setLast l).length = l.length := by
  cases l with
  | nil => rfl
  | cons x l => simp [setLast]
theorem setLast_set (l : List Bool) (h : l ≠ []) : (l.map AV.bool).set (l.length - 1) (.bool true) = (setLast l).map AV.bool := by
  obtain ⟨m, x, rfl⟩ : ∃ m x, l = m ++ [x] := ⟨l.dropLast, l.getLast h, (List.dropLast_concat_getLast h).symm⟩
  have e : setLast (m ++ [x]) = m ++ [true] := by
    cases m with
    | nil => rfl
    | cons y m =>
      show (y :: (m ++ [x])).dropLast ++ [true] = _
      rw [← List.cons_append, List.dropLast_concat]
  rw [e]
  simp

set_option maxHeartbeats 2000000 in
theorem c28 {h : AHeap} {r : Nat} {R : Re} (hg : Good h) (a : RefAt h r R) {g : Bool} (hs : R.stopped = false) (hx : 0 ≤ R.exp ∧ R.exp ≤ 10) (hst : 0 ≤ R.steady ∧ R.steady < 8) (hn : R.ans.length < 1000000) :
    ∃ h' ws, W C 28 [.ptr r 0, .bool g] h = some (.int .i64 0, h', ws) ∧ Left R r h (R.got g) h' ∧ ∀ b ∈ ws, b = r ∨ isAns R b := by
  have hb := a.blk
  have hlt := a.lt
  have w1 : IntKind.i64.wrap (R.exp - 1) = R.exp - 1 := wr_i64 _ (by omega) (by omega)
  have w2 : IntKind.i64.wrap (R.exp + 1) = R.exp + 1 := wr_i64 _ (by omega) (by omega)
  have w3 : IntKind.i64.wrap (R.steady + 1) = R.steady + 1 := wr_i64 _ (by omega) (by omega)
  rcases a.ans with ⟨e1, e2⟩ | ⟨b, o, mn, e1, e2, e3, e4⟩
  · refine ⟨h.set r (R.got g).blk, [r], ?_, Left.own a hg (got_sl R g) ?_, by simp⟩
    · refine W_set0 (m := M28) rfl rfl rfl rfl rfl hg hlt rfl ?_ ?_
      · simp [Re.blk, Re.cells, got_sl, e1, ACells.lt, AV.lts, AV.lt, AV.isCell]
      · cases g
        · by_cases q1 : R.least < R.exp
          all_goals simp (maxDischargeDepth := 9) -implicitDefEqProofs only [push_cast, reduceIte, Nat.reduceEqDiff, Nat.reduceAdd, Nat.reduceSub, Nat.reduceMul, Nat.reduceDiv, Nat.reduceMod, Nat.reduceLT, Nat.reduceLeDiff, Nat.reduceBEq, Nat.reduceBNe, reduceCtorEq, Int.reduceEq, Int.reduceNe, Int.reduceLT, Int.reduceLE, Int.reduceToNat, Int.reduceNeg, Int.reduceAdd, Int.reduceSub, Int.reduceMul, Int.reducePow, Nat.reducePow, Int.reduceBEq, M28, hb, hlt, hs, hg, e1, e2, Re.blk, Re.cells, Re.got, Re.marked, q1, w1]
        · by_cases q1 : R.steady + 1 = 8
          · by_cases q2 : R.exp < R.most
            all_goals simp (maxDischargeDepth := 9) -implicitDefEqProofs only [push_cast, reduceIte, Nat.reduceEqDiff, Nat.reduceAdd, Nat.reduceSub, Nat.reduceMul, Nat.reduceDiv, Nat.reduceMod, Nat.reduceLT, Nat.reduceLeDiff, Nat.reduceBEq, Nat.reduceBNe, reduceCtorEq, Int.reduceEq, Int.reduceNe, Int.reduceLT, Int.reduceLE, Int.reduceToNat, Int.reduceNeg, Int.reduceAdd, Int.reduceSub, Int.reduceMul, Int.reducePow, Nat.reducePow, Int.reduceBEq, M28, hb, hlt, hs, hg, e1, e2, Re.blk, Re.cells, Re.got, Re.marked, q1, q2, w2, w3]
          · simp (maxDischargeDepth := 9) -implicitDefEqProofs only [push_cast, reduceIte, Nat.reduceEqDiff, Nat.reduceAdd, Nat.reduceSub, Nat.reduceMul, Nat.reduceDiv, Nat.reduceMod, Nat.reduceLT, Nat.reduceLeDiff, Nat.reduceBEq, Nat.reduceBNe, reduceCtorEq, Int.reduceEq, Int.reduceNe, Int.reduceLT, Int.reduceLE, Int.reduceToNat, Int.reduceNeg, Int.reduceAdd, Int.reduceSub, Int.reduceMul, Int.reducePow, Nat.reducePow, Int.reduceBEq, M28, hb, hlt, hs, hg, e1, e2, Re.blk, Re.cells, Re.got, Re.marked, q1, w3]
    · unfold Re.got Re.marked; cases g <;> by_cases h8 : R.steady + 1 = 8 <;> simp [e2, h8]
  · have hbr : ¬ b = r := fun e => a.ne ⟨0, _, _, _, by rw [e1, e]⟩
    have hrb : ¬ r = b := fun e => hbr e.symm
    obtain ⟨n1, hn1⟩ : ∃ n1, n1 + 1 = R.ans.length := ⟨R.ans.length - 1, by have := List.length_pos_iff.2 e2; omega⟩
    have hz : ¬ (R.ans.length : Int) = 0 := by omega
    have hn1' : n1 < R.ans.length := by omega
    have w4 : IntKind.i64.wrap ((R.ans.length : Int) - 1) = (n1 : Int) := by rw [wr_i64 _ (by omega) (by omega)]; omega
    have hset : (R.ans.map AV.bool).set n1 (.bool true) = (setLast R.ans).map AV.bool := by
      have := setLast_set R.ans e2
      rwa [show R.ans.length - 1 = n1 by omega] at this
    have hK : ∃ K : AHeap, K = (if o = true then kill b h else h) ∧ K.length = h.length ∧ Good K ∧ (∀ (i : Nat) (x : ABlk), h[i]? = some x → x.st ≠ .old b → K[i]? = some x) := by
      cases o
      · exact ⟨h, rfl, rfl, hg, fun i x hx _ => hx⟩
      · exact ⟨kill b h, rfl, kill_len b h, kill_good hg, fun i x hx hs => kill_get hx hs⟩
    obtain ⟨K, hKe, hKl, hKg, hKk⟩ := hK
    have hKr : K[r]? = some R.blk := hKk r R.blk hb (by simp [Re.blk])
    have ltK : r < K.length := by omega
    have ltKb : b < K.length := by omega
    have hsl' : (R.got g).ans.length = R.ans.length := by
      unfold Re.got Re.marked; cases g <;> by_cases h8 : R.steady + 1 = 8 <;> simp [e2, h8, setLast_len]
    have hans' : (R.got g).ans = setLast R.ans := by
      unfold Re.got Re.marked; cases g <;> by_cases h8 : R.steady + 1 = 8 <;> simp [e2, h8]
    have hX1 : ((K.set b ⟨.tip o, .vals ((setLast R.ans).map AV.bool)⟩).set r (R.got g).blk)[b]? = some ⟨.tip o, .vals ((setLast R.ans).map AV.bool)⟩ := by
      rw [List.getElem?_set_ne hrb, List.getElem?_set_self ltKb]
    have hX2 : ((K.set b ⟨.tip o, .vals ((setLast R.ans).map AV.bool)⟩).set r (R.got g).blk)[r]? = some (R.got g).blk := by
      rw [List.getElem?_set_self (by simpa using ltK)]
    have hbool : ∀ n (l : List Bool), AV.lts n (l.map AV.bool) = true ∧ (l.map AV.bool).all AV.isCell = true := by
      intro n l
      induction l with
      | nil => exact ⟨rfl, rfl⟩
      | cons x l ih => simp [AV.lts, AV.lt, AV.isCell, ih.1, ih.2]
    have hb1 : ∀ n (l : List Bool), AV.lts n (l.map AV.bool) = true := fun n l => (hbool n l).1
    have hb2 : ∀ (l : List Bool), (l.map AV.bool).all AV.isCell = true := fun l => (hbool 0 l).2
    refine ⟨(K.set b ⟨.tip o, .vals ((setLast R.ans).map AV.bool)⟩).set r (R.got g).blk, [b, r], ?_, ⟨⟨hX2, by simpa using ltK, ?_, ?_⟩, good_set (good_set hKg rfl) rfl, by simp; omega, ?_, ?_⟩, ?_⟩
    · refine W_sets (m := M28) (js := []) rfl rfl rfl rfl rfl (by simp [hKl]) (good_set (good_set hKg rfl) rfl) ?_ ?_
      · intro c hc
        simp only [List.mem_cons, List.not_mem_nil, or_false] at hc
        rcases hc with rfl | rfl
        · exact ⟨_, hX1, by simp only [ACells.lt, hb1, hb2, Bool.true_and]⟩
        · refine ⟨_, hX2, ?_⟩
          have hlt' := e3
          simp [Re.blk, Re.cells, got_sl, e1, ACells.lt, AV.lts, AV.lt, AV.isCell, hlt']
      · rw [List.append_nil]
        cases g
        · by_cases q1 : R.least < R.exp
          all_goals simp (maxDischargeDepth := 9) -implicitDefEqProofs only [push_cast, reduceIte, Nat.reduceEqDiff, Nat.reduceAdd, Nat.reduceSub, Nat.reduceMul, Nat.reduceDiv, Nat.reduceMod, Nat.reduceLT, Nat.reduceLeDiff, Nat.reduceBEq, Nat.reduceBNe, reduceCtorEq, Int.reduceEq, Int.reduceNe, Int.reduceLT, Int.reduceLE, Int.reduceToNat, Int.reduceNeg, Int.reduceAdd, Int.reduceSub, Int.reduceMul, Int.reducePow, Nat.reducePow, Int.reduceBEq, M28, hb, e4, hlt, e3, hs, hg, e1, e2, hz, hn1', w4, hset, hbr, hrb, ← hKe, hKr, ltK, ltKb, Re.blk, Re.cells, Re.got, Re.marked, q1, w1]
        · by_cases q1 : R.steady + 1 = 8
          · by_cases q2 : R.exp < R.most
            all_goals simp (maxDischargeDepth := 9) -implicitDefEqProofs only [push_cast, reduceIte, Nat.reduceEqDiff, Nat.reduceAdd, Nat.reduceSub, Nat.reduceMul, Nat.reduceDiv, Nat.reduceMod, Nat.reduceLT, Nat.reduceLeDiff, Nat.reduceBEq, Nat.reduceBNe, reduceCtorEq, Int.reduceEq, Int.reduceNe, Int.reduceLT, Int.reduceLE, Int.reduceToNat, Int.reduceNeg, Int.reduceAdd, Int.reduceSub, Int.reduceMul, Int.reducePow, Nat.reducePow, Int.reduceBEq, M28, hb, e4, hlt, e3, hs, hg, e1, e2, hz, hn1', w4, hset, hbr, hrb, ← hKe, hKr, ltK, ltKb, Re.blk, Re.cells, Re.got, Re.marked, q1, q2, w2, w3]
          · simp (maxDischargeDepth := 9) -implicitDefEqProofs only [push_cast, reduceIte, Nat.reduceEqDiff, Nat.reduceAdd, Nat.reduceSub, Nat.reduceMul, Nat.reduceDiv, Nat.reduceMod, Nat.reduceLT, Nat.reduceLeDiff, Nat.reduceBEq, Nat.reduceBNe, reduceCtorEq, Int.reduceEq, Int.reduceNe, Int.reduceLT, Int.reduceLE, Int.reduceToNat, Int.reduceNeg, Int.reduceAdd, Int.reduceSub, Int.reduceMul, Int.reducePow, Nat.reducePow, Int.reduceBEq, M28, hb, e4, hlt, e3, hs, hg, e1, e2, hz, hn1', w4, hset, hbr, hrb, ← hKe, hKr, ltK, ltKb, Re.blk, Re.cells, Re.got, Re.marked, q1, w3]
    · rw [got_sl, hans']
      refine Or.inr ⟨b, o, mn, ?_, ?_, by simpa [hKl] using e3, hX1⟩
      · rw [e1, setLast_len]
      · intro h0; have := setLast_len R.ans; rw [h0] at this; exact e2 (List.length_eq_zero_iff.1 this.symm)
    · unfold isAns; rw [got_sl]; exact a.ne
    · intro i x hir hia hx hst
      have hib : i ≠ b := fun e => hia ⟨0, _, _, _, by rw [e1, e]⟩
      rw [List.getElem?_set_ne (Ne.symm hir), List.getElem?_set_ne (Ne.symm hib)]
      exact hKk i x hx (hst b)
    · intro c hc; unfold isAns at hc ⊢; rw [got_sl] at hc; exact Or.inl hc
    · intro c hc
      simp only [List.mem_cons, List.not_mem_nil, or_false] at hc
      rcases hc with rfl | rfl
      · exact Or.inr ⟨0, _, _, _, e1⟩
      · exact Or.inl rfl

-- Sent
def Re.idle (R : Re) : Bool :=
  match R.ans.reverse with
  | false :: false :: false :: _ => true
  | _ => false
def Re.sent (R : Re) (now : Int) (sl' : AV) : Re :=
  let e := if R.idle = true then R.least else R.exp
  { R with exp := e, steady := if R.idle = true then 0 else R.steady, ans := R.ans ++ [false], sl := sl', last := now, next := now + 1000000000 * 2 ^ e.toNat }

theorem trim_no {n : Nat} {v : AV} {h : AHeap} {ws : List Nat} {b : Nat} {x : ABlk} (hb : b ∈ ws) (hx : h[b]? = some x) (hl : x.c.lt n = false) : trimR n (v, h, ws) = (v, h, ws) := by
  unfold trimR
  rw [if_neg]
  intro hc
  simp only [Bool.and_eq_true, List.all_eq_true] at hc
  have := hc.1.2 b hb
  rw [hx] at this
  simp only at this
  rw [hl] at this; cases this

theorem reTip_app (b j : Nat) (h : AHeap) (x : ABlk) (hx : x.st ≠ .old b) : reTip b j (h ++ [x]) = reTip b j h ++ [x] := by
  unfold reTip; rw [List.map_append]; simp [hx]

set_option maxHeartbeats 2000000 in
theorem c27 {h : AHeap} {r : Nat} {R : Re} (hg : Good h) (a : RefAt h r R) {now : Int} (h0 : 0 ≤ now) (h1 : now ≤ 4611686018427387904) (hs : R.stopped = false) (hx : 0 ≤ R.exp ∧ R.exp ≤ 10) (hl : 0 ≤ R.least ∧ R.least ≤ 10) (hn : R.ans.length < 1000000) :
    ∃ h' ws sl', W C 27 [.ptr r 0, .int .i64 now] h = some (.int .i64 0, h', ws) ∧ Left R r h (R.sent now sl') h' ∧ ∀ b ∈ ws, b = r ∨ isAns R b := by
  have hb := a.blk
  have hlt := a.lt
  have n0 : ¬ now < 0 := by omega
  have n1 : ¬ 4611686018427387904 < now := by omega
  have pw := pow_le hx.1 hx.2
  have pw' := pow_le hl.1 hl.2
  have x1 := hx.1
  have x2 := hx.2
  have l1 := hl.1
  have l2 := hl.2
  have w1 : IntKind.i64.wrap (now + 1000000000 * 2 ^ R.exp.toNat) = now + 1000000000 * 2 ^ R.exp.toNat := wr_i64 _ (by omega) (by omega)
  have w2 : IntKind.i64.wrap (now + 1000000000 * 2 ^ R.least.toNat) = now + 1000000000 * 2 ^ R.least.toNat := wr_i64 _ (by omega) (by omega)
  have hnr : ¬ h.length = r := by omega
  have hrn : ¬ r = h.length := by omega
  rcases a.ans with ⟨e1, e2⟩ | ⟨b, o, mn, e1, e2, e3, e4⟩
  · -- the first one
    have hid : R.idle = false := by unfold Re.idle; rw [e2]; rfl
    have hbody : xbody (W C) M27 [.ptr r 0, .int .i64 now] h = some (.int .i64 0, h.set r (R.sent now (.gsl (h.length + 1) 0 1 1 true)).blk ++ [⟨.tip false, .vals [.bool false]⟩, ⟨.tip false, .vals [.bool false]⟩], [r]) := by
      simp (maxDischargeDepth := 9) -implicitDefEqProofs only [push_cast, reduceIte, Nat.reduceEqDiff, Nat.reduceAdd, Nat.reduceSub, Nat.reduceMul, Nat.reduceDiv, Nat.reduceMod, Nat.reduceLT, Nat.reduceLeDiff, Nat.reduceBEq, Nat.reduceBNe, reduceCtorEq, Int.reduceEq, Int.reduceNe, Int.reduceLT, Int.reduceLE, Int.reduceToNat, Int.reduceNeg, Int.reduceAdd, Int.reduceSub, Int.reduceMul, Int.reducePow, Nat.reducePow, Int.reduceBEq, M27, hb, hlt, hs, hg, hnr, hrn, n0, n1, e1, e2, hid, c61, x1, x2, w1, Re.blk, Re.cells, Re.sent, newCells, sliceCells, aappend, room, AV.lt]
    have hr2 : (h.set r (R.sent now (.gsl (h.length + 1) 0 1 1 true)).blk ++ [⟨BSt.tip false, .vals [.bool false]⟩, ⟨.tip false, .vals [.bool false]⟩])[r]? = some (R.sent now (.gsl (h.length + 1) 0 1 1 true)).blk := by
      rw [List.getElem?_append_left (by simpa using hlt), List.getElem?_set_self hlt]
    refine ⟨_, [r], .gsl (h.length + 1) 0 1 1 true, ?_, ⟨⟨hr2, by simp; omega, ?_, ?_⟩, good_app (good_set hg rfl) rfl, by simp, ?_, ?_⟩, by simp⟩
    · rw [W_body (m := M27) rfl rfl rfl hbody]
      have : M27.trim = true := rfl
      rw [this, if_pos rfl, trim_no (b := r) (by simp) hr2 ?_]
      exact Re.blk_nlt (by simp [Re.sent, AV.lt])
    · refine Or.inr ⟨h.length + 1, false, true, by simp [Re.sent, e2], by simp [Re.sent], by simp, ?_⟩
      rw [List.getElem?_append_right (by simp)]
      simp [Re.sent, e2]
    · rintro ⟨o', n', e', mn', he⟩
      simp only [Re.sent, AV.gsl.injEq] at he
      omega
    · intro i x hir _ hx _
      have := (List.getElem?_eq_some_iff.1 hx).1
      rw [List.getElem?_append_left (by simpa using this), List.getElem?_set_ne (Ne.symm hir)]; exact hx
    · rintro c ⟨o', n', e', mn', he⟩
      simp only [Re.sent, AV.gsl.injEq] at he
      right; omega
  · -- one more
    have hbr : ¬ b = r := fun e => a.ne ⟨0, _, _, _, by rw [e1, e]⟩
    have hrb : ¬ r = b := fun e => hbr e.symm
    have hnb : ¬ h.length = b := by omega
    have hbn : ¬ b = h.length := by omega
    have hK : ∃ K : AHeap, (if o = true then reTip b (h.length + 1) (h ++ [⟨.tip false, .vals [.bool false]⟩]) else h ++ [⟨.tip false, .vals [.bool false]⟩]) = K ++ [⟨.tip false, .vals [.bool false]⟩] ∧ K.length = h.length ∧
        (∀ (i : Nat) (x : ABlk), h[i]? = some x → x.st ≠ .old b → K[i]? = some x) ∧ K.all (oldIn (h.length + 2)) = true ∧
        (∀ c : ACells, (if o = true then reTip b (h.length + 1) (h.set r ⟨.tip false, c⟩ ++ [⟨.tip false, .vals [.bool false]⟩]) else h.set r ⟨.tip false, c⟩ ++ [⟨.tip false, .vals [.bool false]⟩]) = K.set r ⟨.tip false, c⟩ ++ [⟨.tip false, .vals [.bool false]⟩]) := by
      have hold : h.all (oldIn (h.length + 2)) = true := List.all_eq_true.2 fun x hx => oldIn_mono (by omega) (List.all_eq_true.1 hg x hx)
      cases o
      · exact ⟨h, rfl, rfl, fun i x hx _ => hx, hold, fun c => rfl⟩
      · refine ⟨reTip b (h.length + 1) h, by rw [if_pos rfl, reTip_app _ _ _ _ (by simp)], reTip_len _ _ _, fun i x hx hs => reTip_get hx hs, ?_, fun c => ?_⟩
        rotate_left
        · rw [if_pos rfl, reTip_app _ _ _ _ (by simp)]
          unfold reTip; rw [List.map_set]; simp
        refine List.all_eq_true.2 fun x hx => ?_
        unfold reTip at hx
        obtain ⟨y, hy, rfl⟩ := List.mem_map.1 hx
        split
        · simp [oldIn]
        · exact List.all_eq_true.1 hold y hy
    obtain ⟨K, hKe, hKl, hKk, hKo, hKe2⟩ := hK
    have hcm : ∀ Z B V : ABlk, ((K.set r Z).set b B).set r V = (K.set b B).set r V := fun Z B V => by rw [List.set_comm _ _ hrb, List.set_set]
    have hKr : K[r]? = some R.blk := hKk r R.blk hb (by simp [Re.blk])
    have hKb : b < K.length := by omega
    have hKr' : r < K.length := by omega
    have hKn : ¬ r = K.length := by omega
    have hKn' : ¬ b = K.length := by omega
    have hlen : (R.ans.map AV.bool).length = R.ans.length := by simp
    have hroom : (4 * (R.ans.length + 1) + 8192) * 1 ≤ 281474976710656 := by omega
    have hroom2 : R.ans.length + 1 < 9223372036854775807 := by omega
    have hroomT : room (R.ans.length + 1) 1 = true := by unfold room; exact decide_eq_true ⟨hroom, hroom2⟩
    have htk : (R.ans.map AV.bool).take R.ans.length = R.ans.map AV.bool := by rw [← hlen]; exact List.take_length
    obtain ⟨sl', hsl'⟩ : ∃ sl', sl' = AV.gsl (h.length + 1) 0 (R.ans.length + 1) 1 mn := ⟨_, rfl⟩
    obtain ⟨X, hX⟩ : ∃ X, X = (K.set b ⟨.old (h.length + 1), .vals (R.ans.map AV.bool)⟩).set r (R.sent now sl').blk := ⟨_, rfl⟩
    obtain ⟨wx, hwx⟩ : ∃ l : List Nat, l = if R.idle = true then [r, b] else [b, r] := ⟨_, rfl⟩
    have hrw : r ∈ wx := by rw [hwx]; split <;> simp
    have hbody : xbody (W C) M27 [.ptr r 0, .int .i64 now] h = some (.int .i64 0, X ++ [⟨.tip false, .vals [.bool false]⟩, ⟨.tip true, .vals (R.ans.map AV.bool ++ [.bool false])⟩], wx) := by
      have hhb : ∀ j : Nat, (R.ans.map AV.bool)[j]? = (R.ans[j]?).map AV.bool := fun j => List.getElem?_map
      by_cases q3 : 3 ≤ R.ans.length
      · have q3' : (3 : Int) ≤ (R.ans.length : Int) := by omega
        obtain ⟨pre, y3, y2, y1, hpre⟩ : ∃ pre y3 y2 y1, R.ans = pre ++ [y3, y2, y1] := by
          have t1 := List.take_append_drop (R.ans.length - 3) R.ans
          have t2 : (R.ans.drop (R.ans.length - 3)).length = 3 := by simp; omega
          match hd : R.ans.drop (R.ans.length - 3), t2 with
          | [c3, c2, c1], _ => exact ⟨R.ans.take (R.ans.length - 3), c3, c2, c1, by rw [← hd, t1]⟩
        have hn3 : R.ans.length = pre.length + 3 := by rw [hpre]; simp
        obtain ⟨k1, hk1⟩ : ∃ k, k = pre.length + 2 := ⟨_, rfl⟩
        obtain ⟨k2, hk2⟩ : ∃ k, k = pre.length + 1 := ⟨_, rfl⟩
        obtain ⟨k3, hk3⟩ : ∃ k, k = pre.length := ⟨_, rfl⟩
        have v1 : IntKind.i64.wrap ((R.ans.length : Int) - 1) = (k1 : Int) := by rw [wr_i64 _ (by omega) (by omega)]; omega
        have v2 : IntKind.i64.wrap ((R.ans.length : Int) - 2) = (k2 : Int) := by rw [wr_i64 _ (by omega) (by omega)]; omega
        have v3 : IntKind.i64.wrap ((R.ans.length : Int) - 3) = (k3 : Int) := by rw [wr_i64 _ (by omega) (by omega)]; omega
        have z1 : R.ans[k1]? = some y1 := by rw [hpre, hk1, List.getElem?_append_right (by omega)]; simp
        have z2 : R.ans[k2]? = some y2 := by rw [hpre, hk2, List.getElem?_append_right (by omega)]; simp
        have z3 : R.ans[k3]? = some y3 := by rw [hpre, hk3, List.getElem?_append_right (by omega)]; simp
        have i1 : k1 < R.ans.length := by omega
        have i2 : k2 < R.ans.length := by omega
        have i3 : k3 < R.ans.length := by omega
        have hid : R.idle = (!y1 && !y2 && !y3) := by
          unfold Re.idle; rw [hpre]; simp only [List.reverse_append, List.reverse_cons, List.reverse_nil, List.nil_append, List.cons_append]
          cases y1 <;> cases y2 <;> cases y3 <;> rfl
        cases y1
        · cases y2
          · cases y3
            all_goals simp (maxDischargeDepth := 9) -implicitDefEqProofs only [push_cast, reduceIte, Nat.reduceEqDiff, Nat.reduceAdd, Nat.reduceSub, Nat.reduceMul, Nat.reduceDiv, Nat.reduceMod, Nat.reduceLT, Nat.reduceLeDiff, Nat.reduceBEq, Nat.reduceBNe, reduceCtorEq, Int.reduceEq, Int.reduceNe, Int.reduceLT, Int.reduceLE, Int.reduceToNat, Int.reduceNeg, Int.reduceAdd, Int.reduceSub, Int.reduceMul, Int.reducePow, Nat.reducePow, Int.reduceBEq, M27, hb, e4, hlt, e3, hs, hg, hnr, hrn, hnb, hbn, hbr, hrb, hKe, hKe2, hcm, hKl, hKr, hKb, hKr', n0, n1, e1, q3', v1, v2, v3, z1, z2, z3, i1, i2, i3, hid, c61, x1, x2, l1, l2, w1, w2, hroom, hroom2, htk, hsl', hX, hwx, Re.blk, Re.cells, Re.sent, newCells, sliceCells, aappend, hroomT, AV.lt]
          · simp (maxDischargeDepth := 9) -implicitDefEqProofs only [push_cast, reduceIte, Nat.reduceEqDiff, Nat.reduceAdd, Nat.reduceSub, Nat.reduceMul, Nat.reduceDiv, Nat.reduceMod, Nat.reduceLT, Nat.reduceLeDiff, Nat.reduceBEq, Nat.reduceBNe, reduceCtorEq, Int.reduceEq, Int.reduceNe, Int.reduceLT, Int.reduceLE, Int.reduceToNat, Int.reduceNeg, Int.reduceAdd, Int.reduceSub, Int.reduceMul, Int.reducePow, Nat.reducePow, Int.reduceBEq, M27, hb, e4, hlt, e3, hs, hg, hnr, hrn, hnb, hbn, hbr, hrb, hKe, hKe2, hcm, hKl, hKr, hKb, hKr', n0, n1, e1, q3', v1, v2, v3, z1, z2, z3, i1, i2, i3, hid, c61, x1, x2, l1, l2, w1, w2, hroom, hroom2, htk, hsl', hX, hwx, Re.blk, Re.cells, Re.sent, newCells, sliceCells, aappend, hroomT, AV.lt]
        · simp (maxDischargeDepth := 9) -implicitDefEqProofs only [push_cast, reduceIte, Nat.reduceEqDiff, Nat.reduceAdd, Nat.reduceSub, Nat.reduceMul, Nat.reduceDiv, Nat.reduceMod, Nat.reduceLT, Nat.reduceLeDiff, Nat.reduceBEq, Nat.reduceBNe, reduceCtorEq, Int.reduceEq, Int.reduceNe, Int.reduceLT, Int.reduceLE, Int.reduceToNat, Int.reduceNeg, Int.reduceAdd, Int.reduceSub, Int.reduceMul, Int.reducePow, Nat.reducePow, Int.reduceBEq, M27, hb, e4, hlt, e3, hs, hg, hnr, hrn, hnb, hbn, hbr, hrb, hKe, hKe2, hcm, hKl, hKr, hKb, hKr', n0, n1, e1, q3', v1, v2, v3, z1, z2, z3, i1, i2, i3, hid, c61, x1, x2, l1, l2, w1, w2, hroom, hroom2, htk, hsl', hX, hwx, Re.blk, Re.cells, Re.sent, newCells, sliceCells, aappend, hroomT, AV.lt]
      · have q3' : ¬ (3 : Int) ≤ (R.ans.length : Int) := by omega
        have hid : R.idle = false := by
          unfold Re.idle
          split
          · rename_i hrv
            have := congrArg List.length hrv
            simp at this; omega
          · rfl
        simp (maxDischargeDepth := 9) -implicitDefEqProofs only [push_cast, reduceIte, Nat.reduceEqDiff, Nat.reduceAdd, Nat.reduceSub, Nat.reduceMul, Nat.reduceDiv, Nat.reduceMod, Nat.reduceLT, Nat.reduceLeDiff, Nat.reduceBEq, Nat.reduceBNe, reduceCtorEq, Int.reduceEq, Int.reduceNe, Int.reduceLT, Int.reduceLE, Int.reduceToNat, Int.reduceNeg, Int.reduceAdd, Int.reduceSub, Int.reduceMul, Int.reducePow, Nat.reducePow, Int.reduceBEq, M27, hb, e4, hlt, e3, hs, hg, hnr, hrn, hnb, hbn, hbr, hrb, hKe, hKe2, hcm, hKl, hKr, hKb, hKr', n0, n1, e1, q3', hid, c61, x1, x2, l1, l2, w1, w2, hroom, hroom2, htk, hsl', hX, hwx, Re.blk, Re.cells, Re.sent, newCells, sliceCells, aappend, hroomT, AV.lt]
    have hXl : X.length = h.length := by rw [hX]; simp [hKl]
    have hXr : X[r]? = some (R.sent now sl').blk := by rw [hX, List.getElem?_set_self (by simpa using hKr')]
    have hr2 : (X ++ [⟨BSt.tip false, .vals [.bool false]⟩, ⟨.tip true, .vals (R.ans.map AV.bool ++ [.bool false])⟩])[r]? = some (R.sent now sl').blk := by
      rw [List.getElem?_append_left (by omega)]; exact hXr
    refine ⟨_, wx, sl', ?_, ⟨⟨hr2, by simp; omega, ?_, ?_⟩, ?_, by simp; omega, ?_, ?_⟩, ?_⟩
    · rw [W_body (m := M27) rfl rfl rfl hbody]
      have : M27.trim = true := rfl
      rw [this, if_pos rfl, trim_no (b := r) hrw hr2 ?_]
      exact Re.blk_nlt (by rw [show (R.sent now sl').sl = sl' from rfl, hsl']; simp [AV.lt])
    · refine Or.inr ⟨h.length + 1, true, mn, ?_, by simp [Re.sent], by simp [hXl], ?_⟩
      · show sl' = _; rw [hsl']; simp [Re.sent]
      · rw [List.getElem?_append_right (by omega), hXl]
        simp [Re.sent]
    · rintro ⟨o', n', e', mn', he⟩
      rw [show (R.sent now sl').sl = sl' from rfl, hsl', AV.gsl.injEq] at he
      omega
    · unfold Good
      rw [List.all_append, Bool.and_eq_true]
      refine ⟨?_, by simp [oldIn]⟩
      refine List.all_eq_true.2 fun x hx => ?_
      rw [hX] at hx
      have hl2 : (X ++ ([⟨BSt.tip false, .vals [.bool false]⟩, ⟨.tip true, .vals (R.ans.map AV.bool ++ [.bool false])⟩] : AHeap)).length = h.length + 2 := by simp [hXl]
      rw [hl2]
      rcases List.mem_or_eq_of_mem_set hx with h1 | h1
      · rcases List.mem_or_eq_of_mem_set h1 with h2 | h2
        · exact List.all_eq_true.1 hKo x h2
        · rw [h2]; simp [oldIn]
      · rw [h1]; rfl
    · intro i x hir hia hx hst
      have hib : i ≠ b := fun e => hia ⟨0, _, _, _, by rw [e1, e]⟩
      have := (List.getElem?_eq_some_iff.1 hx).1
      rw [List.getElem?_append_left (by omega), hX, List.getElem?_set_ne (Ne.symm hir), List.getElem?_set_ne (Ne.symm hib)]
      exact hKk i x hx (hst b)
    · rintro c ⟨o', n', e', mn', he⟩
      rw [show (R.sent now sl').sl = sl' from rfl, hsl', AV.gsl.injEq] at he
      right; omega
    · intro c hc
      have hc' : c = b ∨ c = r := by rw [hwx] at hc; split at hc <;> simp at hc <;> omega
      rcases hc' with rfl | rfl
      · exact Or.inr ⟨0, _, _, _, e1⟩
      · exact Or.inl rfl
end Go.Proofs.YtimlhgpjmjmjhaaW.AI.B
