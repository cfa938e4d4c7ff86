import Derived.Test.YtimlhgpjmjmjhaaAIBoctets
namespace Go.Proofs.YtimlhgpjmjmjhaaW.AI.B
open Go Go.Proofs.YtimlhgpjmjmjhaaW.AI Go.Proofs.YtimlhgpjmjmjhaaW.AI.Oct
set_option maxRecDepth 100000
set_option linter.unusedSimpArgs false
set_option linter.unusedVariables false
set_option linter.unusedSectionVars false

theorem trim_addr {n : Nat} {v : AV} {h : AHeap} {ws : List Nat} (hv : v.lt n = false) : trimR n (v, h, ws) = (v, h, ws) := by
  unfold trimR
  rw [if_neg]
  simp only [hv, Bool.false_and, Bool.false_eq_true, not_false_eq_true]

theorem cellsAt_app {h js : AHeap} {b : Nat} {c : ACells} (hc : cellsAt h b = some c) : cellsAt (h ++ js) b = some c := by
  obtain ⟨x, h1, _, _⟩ := cellsAt_some hc
  have hl := (List.getElem?_eq_some_iff.1 h1).1
  unfold cellsAt at hc ⊢
  rw [List.getElem?_append_left hl]; exact hc
theorem BytAt.app {h : AHeap} {x : AV} {l : List Int} (hx : BytAt h x l) (js : AHeap) : BytAt (h ++ js) x l := by
  obtain ⟨h1, h2, h3⟩ := hx
  refine ⟨h1, ?_, h3⟩
  cases x <;> simp only [sliceCells] at h2 ⊢ <;> first | (cases h2; done) | skip
  · simp only [Option.bind_eq_some_iff] at h2 ⊢
    obtain ⟨c, g1, g2⟩ := h2
    exact ⟨c, cellsAt_app g1, g2⟩
  · split at h2
    · rename_i he
      rw [if_pos he]
      simp only [Option.bind_eq_some_iff] at h2 ⊢
      obtain ⟨c, g1, g2⟩ := h2
      exact ⟨c, cellsAt_app g1, g2⟩
    · cases h2

theorem BytAt.made {h : AHeap} {l : List Int} {b : Nat} (hb : h[b]? = some ⟨.tip false, .ints .u8 l⟩) (hl : Byt l) : BytAt h (.gsl b 0 l.length 1 false) l := by
  refine ⟨rfl, ?_, hl⟩
  simp only [sliceCells, if_true]
  unfold cellsAt
  rw [hb]
  simp [ACells.len, ACells.sub]

theorem c69 {h : AHeap} {x : AV} {l : List Int} (hg : Good h) (hx : BytAt h x l) (hf : Form x l.length) (h0 : 0 < l.length) (hn : l.length < 1000000) :
    W CP 69 [x] h = some (.gsl (h.length + 1) 0 l.length 1 false, h ++ [⟨.tip false, .ints .u8 []⟩, ⟨.tip false, .ints .u8 l⟩], []) := by
  have hna := na_slen hx.1
  have hsl := hx.1
  have e1 := (hx.app [⟨.tip false, .ints .u8 []⟩]).2.1
  have e2 : sliceCells (h ++ [⟨.tip false, .ints .u8 []⟩]) 1 (.sl h.length 0 0 0) = some (.ints .u8 []) := by
    simp only [sliceCells, cellsAt]
    rw [List.getElem?_append_right (Nat.le_refl _)]
    simp [ACells.len, ACells.sub]
  have e3 : room l.length 1 = true := by unfold room; exact decide_eq_true ⟨by omega, by omega⟩
  have e4 : ¬ l.length ≤ 0 := by omega
  have key : ∀ x', x = x' → AV.lts 0 [x'] = false → xbody (W CP) M69 [x'] h = some (.gsl (h.length + 1) 0 l.length 1 false, h ++ [⟨.tip false, .ints .u8 []⟩, ⟨.tip false, .ints .u8 l⟩], []) → W CP 69 [x'] h = some (.gsl (h.length + 1) 0 l.length 1 false, h ++ [⟨.tip false, .ints .u8 []⟩, ⟨.tip false, .ints .u8 l⟩], []) := by
    intro x' _ h2 h3
    rw [W_body (m := M69) rfl rfl h2 h3]
    have : M69.trim = true := rfl
    rw [this, if_pos rfl, trim_addr (by simp [AV.lt])]
  rcases hf with ⟨q, o, c, rfl, hc⟩ | ⟨q, o, rfl⟩
  · refine key _ rfl (by simp [AV.lts, AV.lt]) ?_
    simp (maxDischargeDepth := 9) -implicitDefEqProofs only [push_cast, reduceIte, Nat.reduceEqDiff, Nat.reduceAdd, Nat.reduceSub, Nat.reduceMul, Nat.reduceDiv, Nat.reduceMod, Nat.reduceLT, Nat.reduceLeDiff, Nat.reduceBEq, Nat.reduceBNe, reduceCtorEq, Int.reduceEq, Int.reduceNe, Int.reduceLT, Int.reduceLE, Int.reduceToNat, Int.reduceNeg, Int.reduceAdd, Int.reduceSub, Int.reduceMul, Int.reducePow, Nat.reducePow, Int.reduceBEq, M69, hna, newCells, e1, aappend, e2, e3, e4]
  · refine key _ rfl (by simp [AV.lts, AV.lt]) ?_
    simp (maxDischargeDepth := 9) -implicitDefEqProofs only [push_cast, reduceIte, Nat.reduceEqDiff, Nat.reduceAdd, Nat.reduceSub, Nat.reduceMul, Nat.reduceDiv, Nat.reduceMod, Nat.reduceLT, Nat.reduceLeDiff, Nat.reduceBEq, Nat.reduceBNe, reduceCtorEq, Int.reduceEq, Int.reduceNe, Int.reduceLT, Int.reduceLE, Int.reduceToNat, Int.reduceNeg, Int.reduceAdd, Int.reduceSub, Int.reduceMul, Int.reducePow, Nat.reducePow, Int.reduceBEq, M69, hna, newCells, e1, aappend, e2, e3, e4]

theorem c46_range {h : AHeap} {x : AV} {n p k : Nat} {v : Int} (hg : Good h) (hx : slen x = some n) (v0 : 0 ≤ v) (v1 : v < 18446744073709551616) (hv : ¬ v < 256 ^ k) (k1 : 1 ≤ k) (k8 : k ≤ 8) :
    W CP 46 [x, .int .i64 (p : Int), .int .i64 (k : Int), .int .u64 v] h = some (.tup [.nils, .int .i64 20], h, []) := by
  have hna := na_slen hx
  have e73 := fun g => p73 (k : Int) (by omega) (by omega) g
  have e64 := fun g => p64 (h := g) v0 v1 k1 k8
  have c1 : ¬ (p : Int) < 0 := by omega
  refine W_any (m := M46) (fun _ => rfl) rfl rfl rfl hg fun g => ?_
  simp (maxDischargeDepth := 9) -implicitDefEqProofs only [push_cast, reduceIte, Nat.reduceEqDiff, Nat.reduceAdd, Nat.reduceSub, Nat.reduceMul, Nat.reduceDiv, Nat.reduceMod, Nat.reduceLT, Nat.reduceLeDiff, Nat.reduceBEq, Nat.reduceBNe, reduceCtorEq, Int.reduceEq, Int.reduceNe, Int.reduceLT, Int.reduceLE, Int.reduceToNat, Int.reduceNeg, Int.reduceAdd, Int.reduceSub, Int.reduceMul, Int.reducePow, Nat.reducePow, Int.reduceBEq, M46, hna, e73, e64, c1, hv]
theorem c46_short {h : AHeap} {x : AV} {n p k : Nat} {v : Int} (hg : Good h) (hx : slen x = some n) (hn : n < 4611686018427387904) (v0 : 0 ≤ v) (v1 : v < 18446744073709551616) (hv : v < 256 ^ k) (k1 : 1 ≤ k) (k8 : k ≤ 8) (hk : n < p + k) :
    W CP 46 [x, .int .i64 (p : Int), .int .i64 (k : Int), .int .u64 v] h = some (.tup [.nils, .int .i64 4], h, []) := by
  have hna := na_slen hx
  have e73 := fun g => p73 (k : Int) (by omega) (by omega) g
  have e64 := fun g => p64 (h := g) v0 v1 k1 k8
  have c1 : ¬ (p : Int) < 0 := by omega
  cases h0 : AV.lts 0 [x, .int .i64 (p : Int), .int .i64 (k : Int), .int .u64 v] with
  | true =>
    refine W_pure (m := M46) (h' := []) (ws := []) (fun _ => rfl) rfl h0 rfl ?_ h
    show xbody (W CP) M46 _ [] = _
    have e75 := p75_out (h := []) good_nil hx hn hk
    simp (maxDischargeDepth := 9) -implicitDefEqProofs only [push_cast, reduceIte, Nat.reduceEqDiff, Nat.reduceAdd, Nat.reduceSub, Nat.reduceMul, Nat.reduceDiv, Nat.reduceMod, Nat.reduceLT, Nat.reduceLeDiff, Nat.reduceBEq, Nat.reduceBNe, reduceCtorEq, Int.reduceEq, Int.reduceNe, Int.reduceLT, Int.reduceLE, Int.reduceToNat, Int.reduceNeg, Int.reduceAdd, Int.reduceSub, Int.reduceMul, Int.reducePow, Nat.reducePow, Int.reduceBEq, M46, hna, e73, e64, e75, c1, hv]
  | false =>
    have e75 := p75_out (h := h) hg hx hn hk
    refine W_quiet0 (m := M46) rfl rfl h0 rfl rfl hg ?_
    simp (maxDischargeDepth := 9) -implicitDefEqProofs only [push_cast, reduceIte, Nat.reduceEqDiff, Nat.reduceAdd, Nat.reduceSub, Nat.reduceMul, Nat.reduceDiv, Nat.reduceMod, Nat.reduceLT, Nat.reduceLeDiff, Nat.reduceBEq, Nat.reduceBNe, reduceCtorEq, Int.reduceEq, Int.reduceNe, Int.reduceLT, Int.reduceLE, Int.reduceToNat, Int.reduceNeg, Int.reduceAdd, Int.reduceSub, Int.reduceMul, Int.reducePow, Nat.reducePow, Int.reduceBEq, M46, hna, e73, e64, e75, c1, hv]

theorem c46 {h : AHeap} {x : AV} {l : List Int} {p k : Nat} {v : Int} (hg : Good h) (hx : BytAt h x l) (hf : Form x l.length) (hn : l.length < 1000000) (v0 : 0 ≤ v) (v1 : v < 18446744073709551616) (hv : v < 256 ^ k) (k1 : 1 ≤ k) (k8 : k ≤ 8) (hk : p + k ≤ l.length) :
    W CP 46 [x, .int .i64 (p : Int), .int .i64 (k : Int), .int .u64 v] h = some (.tup [.gsl (h.length + 1) 0 l.length 1 false, .int .i64 0], h ++ [⟨.tip false, .ints .u8 []⟩, ⟨.tip false, .ints .u8 (splice l p (dg k v))⟩], []) := by
  have hna := na_slen hx.1
  have e73 := fun g => p73 (k : Int) (by omega) (by omega) g
  have e64 := fun g => p64 (h := g) v0 v1 k1 k8
  have c1 : ¬ (p : Int) < 0 := by omega
  have e75 := p75_in (h := h) hg hx.1 (by omega) hk
  have e69 := c69 hg hx hf (by omega) hn
  have w1 : IntKind.i64.wrap ((p : Int) + (k : Int)) = ((p + k : Nat) : Int) := by rw [wr_i64 _ (by omega) (by omega)]; omega
  obtain ⟨u, hu⟩ : ∃ u, p + k = u := ⟨_, rfl⟩
  rw [hu] at w1
  have u1 : u - p = k := by omega
  have u2 : p ≤ u := by omega
  have u3 : u ≤ l.length := by omega
  have e65 : W CP 65 [.gsl (h.length + 1) p k 1 false, .int .u64 v] (h ++ [⟨.tip false, .ints .u8 []⟩, ⟨.tip false, .ints .u8 l⟩]) = some (.tup [], h ++ [⟨.tip false, .ints .u8 []⟩, ⟨.tip false, .ints .u8 (splice l p (dg k v))⟩], [h.length + 1]) := by
    rw [v65 (l := l) (by rw [List.getElem?_append_right (by omega)]; simp) (by omega) k8 hk]
    rw [List.set_append_right _ _ (by omega)]
    simp
  have hbody : xbody (W CP) M46 [x, .int .i64 (p : Int), .int .i64 (k : Int), .int .u64 v] h = some (.tup [.gsl (h.length + 1) 0 l.length 1 false, .int .i64 0], h ++ [⟨.tip false, .ints .u8 []⟩, ⟨.tip false, .ints .u8 (splice l p (dg k v))⟩], []) := by
    simp (maxDischargeDepth := 9) -implicitDefEqProofs only [push_cast, reduceIte, Nat.reduceEqDiff, Nat.reduceAdd, Nat.reduceSub, Nat.reduceMul, Nat.reduceDiv, Nat.reduceMod, Nat.reduceLT, Nat.reduceLeDiff, Nat.reduceBEq, Nat.reduceBNe, reduceCtorEq, Int.reduceEq, Int.reduceNe, Int.reduceLT, Int.reduceLE, Int.reduceToNat, Int.reduceNeg, Int.reduceAdd, Int.reduceSub, Int.reduceMul, Int.reducePow, Nat.reducePow, Int.reduceBEq, M46, hna, e73, e64, e75, c1, hv, e69, w1, u1, u2, u3, e65]
  have h0 : AV.lts 0 [x, .int .i64 (p : Int), .int .i64 (k : Int), .int .u64 v] = false := by
    rcases hf with ⟨q, o, c, rfl, hc⟩ | ⟨q, o, rfl⟩ <;> simp [AV.lts, AV.lt]
  rw [W_body (m := M46) rfl rfl h0 hbody]
  have : M46.trim = true := rfl
  rw [this, if_pos rfl, trim_addr (by simp [AV.lt, AV.lts])]

theorem c41 {h : AHeap} {x y : AV} {l : List Int} (hg : Good h) (hx : BytAt h x l) (hy : BytAt h y l) : W CP 41 [x, y] h = some (.bool true, h, []) := by
  have n1 := na_slen hx.1
  have n2 := na_slen hy.1
  have e1 := hx.2.1
  have e2 := hy.2.1
  have hlt : AV.lts 0 [x, y] = false := by
    cases x <;> simp only [sliceCells] at e1 <;> first | (cases e1; done) | simp [AV.lts, AV.lt]
  refine W_quiet0 (m := M41) rfl rfl hlt rfl rfl hg ?_
  cases x <;> simp only [sliceCells] at e1 <;> first | (cases e1; done) | skip
  all_goals
    have e1 := hx.2.1
    cases y <;> simp only [sliceCells] at e2 <;> first | (cases e2; done) | skip
    all_goals
      have e2 := hy.2.1
      simp (maxDischargeDepth := 9) -implicitDefEqProofs only [push_cast, reduceIte, Nat.reduceEqDiff, Nat.reduceAdd, Nat.reduceSub, Nat.reduceMul, Nat.reduceDiv, Nat.reduceMod, Nat.reduceLT, Nat.reduceLeDiff, Nat.reduceBEq, Nat.reduceBNe, reduceCtorEq, Int.reduceEq, Int.reduceNe, Int.reduceLT, Int.reduceLE, Int.reduceToNat, Int.reduceNeg, Int.reduceAdd, Int.reduceSub, Int.reduceMul, Int.reducePow, Nat.reducePow, Int.reduceBEq, M41, e1, e2, bytesOf]
end Go.Proofs.YtimlhgpjmjmjhaaW.AI.B
