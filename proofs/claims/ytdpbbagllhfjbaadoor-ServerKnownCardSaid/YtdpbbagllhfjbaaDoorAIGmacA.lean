import Derived.Test.YtdpbbagllhfjbaaDoorAIGextD
namespace Go.Proofs.YtdpbbagllhfjbaaDoorW.AI.G
open Go Go.Proofs.YtdpbbagllhfjbaaDoorW.AI Go.Proofs.YtdpbbagllhfjbaaDoorW.AI.Oct
set_option maxRecDepth 100000
set_option linter.unusedSimpArgs false
set_option linter.unusedVariables false
set_option linter.unusedSectionVars false
/-- A number turned round. -/
def rotI (x : Int) (k : Nat) : Int := abits .or .u64 (IntKind.u64.wrap (x * 2 ^ k)) (x.fdiv (2 ^ (64 - k)))
def Rk (k : Nat) : Prop := k = 13 ∨ k = 16 ∨ k = 17 ∨ k = 21 ∨ k = 32
theorem rot_c {x : Int} {k : Nat} (hk : Rk k) (h : AHeap) : W CP 121 [.int .u64 x, .int .i64 (k : Int)] h = some (.int .u64 (rotI x k), h, []) := by
  refine W_val (m := M121) (fun _ => rfl) rfl rfl rfl ?_ h
  have e : ∀ j : Nat, j < 64 → IntKind.u64.wrap (j : Int) = (j : Int) := fun j hj => wr_u64 _ (by omega) (by omega)
  have a13 : abits .and .u64 13 63 = 13 := rfl
  have a16 : abits .and .u64 16 63 = 16 := rfl
  have a17 : abits .and .u64 17 63 = 17 := rfl
  have a21 : abits .and .u64 21 63 = 21 := rfl
  have a32 : abits .and .u64 32 63 = 32 := rfl
  have w13 : IntKind.u64.wrap 13 = 13 := rfl
  have w16 : IntKind.u64.wrap 16 = 16 := rfl
  have w17 : IntKind.u64.wrap 17 = 17 := rfl
  have w21 : IntKind.u64.wrap 21 = 21 := rfl
  have w32 : IntKind.u64.wrap 32 = 32 := rfl
  have w51 : IntKind.u64.wrap 51 = 51 := rfl
  have w48 : IntKind.u64.wrap 48 = 48 := rfl
  have w47 : IntKind.u64.wrap 47 = 47 := rfl
  have w43 : IntKind.u64.wrap 43 = 43 := rfl
  rcases hk with rfl | rfl | rfl | rfl | rfl
  all_goals
    simp (maxDischargeDepth := 9) -implicitDefEqProofs only [push_cast, simprocAttr, M121, Int.cast_ofNat_Int, a13, a16, a17, a21, a32, w13, w16, w17, w21, w32, w51, w48, w47, w43]
    rfl
end Go.Proofs.YtdpbbagllhfjbaaDoorW.AI.G
namespace Go.Proofs.YtdpbbagllhfjbaaDoorW.AI.G
open Go Go.Proofs.YtdpbbagllhfjbaaDoorW.AI Go.Proofs.YtdpbbagllhfjbaaDoorW.AI.Oct
set_option maxRecDepth 100000
set_option linter.unusedSimpArgs false
set_option linter.unusedVariables false
set_option linter.unusedSectionVars false
def xorI (x y : Int) : Int := abits .xor .u64 x y
def addI (x y : Int) : Int := IntKind.u64.wrap (x + y)
/-- The state's numbers. -/
structure V4 where
  a : Int
  b : Int
  c : Int
  d : Int
def V4.l (v : V4) : List Int := [v.a, v.b, v.c, v.d]
def half1 (v : V4) : V4 := ⟨rotI (addI v.a v.b) 32, xorI (rotI v.b 13) (addI v.a v.b), addI v.c v.d, xorI (rotI v.d 16) (addI v.c v.d)⟩
def half2 (v : V4) : V4 := ⟨addI v.a v.d, xorI (rotI v.b 17) (addI v.c v.b), rotI (addI v.c v.b) 32, xorI (rotI v.d 21) (addI v.a v.d)⟩
def roundV (v : V4) : V4 := half2 (half1 v)
set_option maxHeartbeats 8000000 in
theorem half1_c {h : AHeap} {v : V4} {q p : Nat} (hg : Good h) (hp : h[p]? = some ⟨.tip false, .vals [.ptr q 0]⟩) (hq : h[q]? = some ⟨.tip false, .ints .u64 [v.a, v.b, v.c, v.d]⟩) :
    W CP 120 [.int .i64 0, .int .i64 1, .int .i64 2, .int .i64 3, .int .i64 13, .int .i64 16, .ptr p 0] h = some (.tup [], h.set q ⟨.tip false, .ints .u64 [(half1 v).a, (half1 v).b, (half1 v).c, (half1 v).d]⟩, [q]) := by
  have lq := (List.getElem?_eq_some_iff.1 hq).1
  have lp := (List.getElem?_eq_some_iff.1 hp).1
  have hpq : ¬ p = q := by rintro rfl; rw [hp] at hq; cases hq
  have hqp : ¬ q = p := fun e => hpq e.symm
  refine W_set0 (m := M120) rfl rfl rfl rfl rfl hg lq rfl rfl ?_
  have r13 := fun (x : Int) (h : AHeap) => rot_c (x := x) (k := 13) (Or.inl rfl) h
  have r16 := fun (x : Int) (h : AHeap) => rot_c (x := x) (k := 16) (Or.inr (Or.inl rfl)) h
  have r32 := fun (x : Int) (h : AHeap) => rot_c (x := x) (k := 32) (Or.inr (Or.inr (Or.inr (Or.inr rfl)))) h
  simp only [Int.cast_ofNat_Int] at r13 r16 r32
  have hle : ¬ h.length ≤ q := by omega
  have hle2 : ¬ h.length ≤ p := by omega
  simp (maxDischargeDepth := 9) -implicitDefEqProofs only [push_cast, simprocAttr, M120, hp, lp, hq, lq, hpq, hqp, r13, r16, r32, hle, hle2, decide_false, Bool.not_false, Bool.and_true]
  rfl
set_option maxHeartbeats 8000000 in
theorem half2_c {h : AHeap} {v : V4} {q p : Nat} (hg : Good h) (hp : h[p]? = some ⟨.tip false, .vals [.ptr q 0]⟩) (hq : h[q]? = some ⟨.tip false, .ints .u64 [v.a, v.b, v.c, v.d]⟩) :
    W CP 120 [.int .i64 2, .int .i64 1, .int .i64 0, .int .i64 3, .int .i64 17, .int .i64 21, .ptr p 0] h = some (.tup [], h.set q ⟨.tip false, .ints .u64 [(half2 v).a, (half2 v).b, (half2 v).c, (half2 v).d]⟩, [q]) := by
  have lq := (List.getElem?_eq_some_iff.1 hq).1
  have lp := (List.getElem?_eq_some_iff.1 hp).1
  have hpq : ¬ p = q := by rintro rfl; rw [hp] at hq; cases hq
  have hqp : ¬ q = p := fun e => hpq e.symm
  refine W_set0 (m := M120) rfl rfl rfl rfl rfl hg lq rfl rfl ?_
  have r17 := fun (x : Int) (h : AHeap) => rot_c (x := x) (k := 17) (Or.inr (Or.inr (Or.inl rfl))) h
  have r21 := fun (x : Int) (h : AHeap) => rot_c (x := x) (k := 21) (Or.inr (Or.inr (Or.inr (Or.inl rfl)))) h
  have r32 := fun (x : Int) (h : AHeap) => rot_c (x := x) (k := 32) (Or.inr (Or.inr (Or.inr (Or.inr rfl)))) h
  simp only [Int.cast_ofNat_Int] at r17 r21 r32
  have hle : ¬ h.length ≤ q := by omega
  have hle2 : ¬ h.length ≤ p := by omega
  simp (maxDischargeDepth := 9) -implicitDefEqProofs only [push_cast, simprocAttr, M120, hp, lp, hq, lq, hpq, hqp, r17, r21, r32, hle, hle2, decide_false, Bool.not_false, Bool.and_true]
  rfl
set_option maxHeartbeats 8000000 in
theorem round_c {h : AHeap} {v : V4} {q : Nat} (hg : Good h) (hq : h[q]? = some ⟨.tip false, .ints .u64 [v.a, v.b, v.c, v.d]⟩) :
    W CP 107 [.ptr q 0] h = some (.tup [], h.set q ⟨.tip false, .ints .u64 [(roundV v).a, (roundV v).b, (roundV v).c, (roundV v).d]⟩, [q]) := by
  have lq := (List.getElem?_eq_some_iff.1 hq).1
  refine W_set (m := M107) (js := [⟨.tip false, .vals [.ptr q 0]⟩]) rfl rfl rfl rfl rfl hg lq rfl rfl ?_
  have hg1 : Good (h ++ [⟨.tip false, .vals [.ptr q 0]⟩]) := good_app hg rfl
  have hp1 : (h ++ [(⟨.tip false, .vals [.ptr q 0]⟩ : ABlk)])[h.length]? = some ⟨.tip false, .vals [.ptr q 0]⟩ := end_get _ _ _
  have hq1 : (h ++ [(⟨.tip false, .vals [.ptr q 0]⟩ : ABlk)])[q]? = some ⟨.tip false, .ints .u64 [v.a, v.b, v.c, v.d]⟩ := by rw [List.getElem?_append_left lq]; exact hq
  have e1 := half1_c hg1 hp1 hq1
  have s1 : ∀ z : ABlk, (h ++ [(⟨.tip false, .vals [.ptr q 0]⟩ : ABlk)]).set q z = h.set q z ++ [⟨.tip false, .vals [.ptr q 0]⟩] := fun z => by rw [List.set_append_left _ _ lq]
  rw [s1] at e1
  have hg2 : Good (h.set q ⟨.tip false, .ints .u64 [(half1 v).a, (half1 v).b, (half1 v).c, (half1 v).d]⟩ ++ [⟨.tip false, .vals [.ptr q 0]⟩]) := good_app (good_set hg rfl) rfl
  have lq2 : q < (h.set q ⟨.tip false, .ints .u64 [(half1 v).a, (half1 v).b, (half1 v).c, (half1 v).d]⟩).length := by rw [List.length_set]; exact lq
  have hq2 : (h.set q ⟨.tip false, .ints .u64 [(half1 v).a, (half1 v).b, (half1 v).c, (half1 v).d]⟩ ++ [(⟨.tip false, .vals [.ptr q 0]⟩ : ABlk)])[q]? = some ⟨.tip false, .ints .u64 [(half1 v).a, (half1 v).b, (half1 v).c, (half1 v).d]⟩ := by
    rw [List.getElem?_append_left lq2, List.getElem?_set_self lq]
  have hp2 : (h.set q ⟨.tip false, .ints .u64 [(half1 v).a, (half1 v).b, (half1 v).c, (half1 v).d]⟩ ++ [(⟨.tip false, .vals [.ptr q 0]⟩ : ABlk)])[h.length]? = some ⟨.tip false, .vals [.ptr q 0]⟩ := by
    have := end_get (h.set q ⟨.tip false, .ints .u64 [(half1 v).a, (half1 v).b, (half1 v).c, (half1 v).d]⟩) (⟨.tip false, .vals [.ptr q 0]⟩ : ABlk) []
    rw [List.length_set] at this
    exact this
  have e2 := half2_c hg2 hp2 hq2
  rw [List.set_append_left _ _ lq2, List.set_set] at e2
  simp (maxDischargeDepth := 9) -implicitDefEqProofs only [push_cast, simprocAttr, M107, e1, e2, lq, List.mem_cons, true_or, not_true_eq_false, and_false, if_false, if_true]
  rfl
def iterV : Nat → V4 → V4
  | 0, v => v
  | n + 1, v => iterV n (roundV v)
theorem iterV_succ : ∀ (n : Nat) (v : V4), iterV (n + 1) v = roundV (iterV n v)
  | 0, v => rfl
  | n + 1, v => iterV_succ n (roundV v)
set_option maxHeartbeats 8000000 in
theorem rounds_c {h : AHeap} {v : V4} {q n : Nat} (hg : Good h) (hq : h[q]? = some ⟨.tip false, .ints .u64 v.l⟩) (hn : 1 ≤ n) (hn2 : n < 1000) :
    W CP 76 [.ptr q 0, .int .i64 (n : Int)] h = some (.tup [], h.set q ⟨.tip false, .ints .u64 (iterV n v).l⟩, [q]) := by
  have lq := (List.getElem?_eq_some_iff.1 hq).1
  refine W_set0 (m := M76) rfl rfl rfl rfl rfl hg lq rfl rfl ?_
  refine wp_eqP ?_
  simp (maxDischargeDepth := 9) -implicitDefEqProofs only [push_cast, simprocAttr, M76]
  refine wp_kRes (wp_kBlock ?_)
  refine wp_loop (fun k a h' ws => ∃ i : Nat, k = n - i ∧ i ≤ n ∧ a = [(0, .ptr q 0), (4, .int .i64 (n : Int)), (5, .int .i64 (i : Int))] ∧ h' = h.set q ⟨.tip false, .ints .u64 (iterV i v).l⟩ ∧ ws = if i = 0 then [] else [q]) n ?_ ?_
  · refine ⟨0, by omega, by omega, ?_, ?_, rfl⟩
    · simp (maxDischargeDepth := 9) -implicitDefEqProofs only [push_cast, simprocAttr]; try rfl
    · exact (set_same hq).symm
  · rintro k aa h' ws ⟨i, rfl, hi, rfl, rfl, rfl⟩
    have v1 : IntKind.i64.wrap ((i : Int) + 1) = (i : Int) + 1 := wr_i64 _ (by omega) (by omega)
    by_cases hlt : i < n
    · have hlt' : (i : Int) < (n : Int) := by omega
      have e := round_c (v := iterV i v) (q := q) (h := h.set q ⟨.tip false, .ints .u64 (iterV i v).l⟩) (good_set hg rfl) (by rw [List.getElem?_set_self lq]; rfl)
      rw [List.set_set, ← iterV_succ] at e
      simp (maxDischargeDepth := 9) -implicitDefEqProofs only [push_cast, simprocAttr, hlt', v1, e]
      refine loop_next (n - (i + 1)) (by omega) ⟨i + 1, rfl, by omega, ?_, rfl, ?_⟩
      · simp (maxDischargeDepth := 9) -implicitDefEqProofs only [push_cast, simprocAttr]; try simp
      · by_cases h0 : i = 0
        · simp [h0, lq, wadd_cons, wadd_nil]
        · simp [h0, lq, wadd_cons, wadd_nil]
    · have hi2 : i = n := by omega
      subst hi2
      have hnl : ¬ (i : Int) < (i : Int) := by omega
      have h0 : ¬ i = 0 := by omega
      simp (maxDischargeDepth := 9) -implicitDefEqProofs only [push_cast, simprocAttr, hnl, h0]
end Go.Proofs.YtdpbbagllhfjbaaDoorW.AI.G
namespace Go.Proofs.YtdpbbagllhfjbaaDoorW.AI.G
open Go Go.Proofs.YtdpbbagllhfjbaaDoorW.AI Go.Proofs.YtdpbbagllhfjbaaDoorW.AI.Oct
set_option maxRecDepth 100000
set_option linter.unusedSimpArgs false
set_option linter.unusedVariables false
set_option linter.unusedSectionVars false
def takeW (v : V4) (m : Int) : V4 :=
  let w := iterV 2 { v with d := xorI v.d m }
  { w with a := xorI w.a m }
set_option maxHeartbeats 8000000 in
theorem takeW_c {h : AHeap} {v : V4} {q : Nat} {m : Int} (hg : Good h) (hq : h[q]? = some ⟨.tip false, .ints .u64 v.l⟩) :
    W CP 75 [.ptr q 0, .int .u64 m] h = some (.tup [], h.set q ⟨.tip false, .ints .u64 (takeW v m).l⟩, [q]) := by
  have lq := (List.getElem?_eq_some_iff.1 hq).1
  refine W_set0 (m := M75) rfl rfl rfl rfl rfl hg lq rfl rfl ?_
  have e := rounds_c (v := { v with d := xorI v.d m }) (q := q) (n := 2) (h := h.set q ⟨.tip false, .ints .u64 ({ v with d := xorI v.d m } : V4).l⟩) (good_set hg rfl) (by rw [List.getElem?_set_self lq]) (by decide) (by decide)
  rw [List.set_set] at e
  obtain ⟨w, hw⟩ : ∃ w, iterV 2 { v with d := xorI v.d m } = w := ⟨_, rfl⟩
  have ht : takeW v m = { w with a := xorI w.a m } := by unfold takeW; rw [hw]
  rw [ht]
  rw [hw] at e
  simp only [V4.l, xorI, Int.cast_ofNat_Int] at e hq ⊢
  simp (maxDischargeDepth := 9) -implicitDefEqProofs only [push_cast, simprocAttr, M75, hq, lq, e, List.mem_cons, true_or, not_true_eq_false, and_false, if_false, if_true]
/-- Bytes so far: the state, the word, how many. -/
structure TS where
  v : V4
  w : Int
  n : Nat
def shlI (x : Int) (k : Nat) : Int := IntKind.u64.wrap (x * 2 ^ k)
def orI (x y : Int) : Int := abits .or .u64 x y
def stepT (t : TS) (c : Int) : TS :=
  if (t.n + 1) % 8 = 0 then ⟨takeW t.v (orI t.w (shlI c (8 * (t.n % 8)))), 0, t.n + 1⟩ else ⟨t.v, orI t.w (shlI c (8 * (t.n % 8))), t.n + 1⟩
def startV (A B : Int) : V4 := ⟨xorI A 8317987319222330741, xorI B 7237128888997146477, xorI A 7816392313619706465, xorI B 8387220255154660723⟩
def runT (A B : Int) (D : List Int) : TS := D.foldl stepT ⟨startV A B, 0, 0⟩
theorem runT_snoc (A B : Int) (D : List Int) (c : Int) : runT A B (D ++ [c]) = stepT (runT A B D) c := by simp [runT]
theorem runT_n (A B : Int) (D : List Int) : (runT A B D).n = D.length := by
  induction D using snoc_ind with
  | h0 => rfl
  | h1 l b ih =>
    rw [runT_snoc, List.length_append, ← ih]
    unfold stepT
    split <;> rfl
/-- The tag. -/
def tagI (A B : Int) (D : List Int) : Int :=
  let t := runT A B D
  let u := takeW t.v (orI t.w (shlI (t.n : Int) 56))
  let z := iterV 4 { u with c := xorI u.c 255 }
  xorI (xorI (xorI z.a z.b) z.c) z.d
set_option maxHeartbeats 16000000 in
theorem tag_key {g : AHeap} {id A B : Int} {b : AV} {D : List Int} {pq : Nat} (hg : Good g) (hp : g[pq]? = some ⟨.tip false, .vals [b]⟩) (hb : BV g b D) (hl : D.length < 1000000) : Wp (xbody (W CP) M45 [.agg [.int .u32 id, .int .u64 A, .int .u64 B], .sl pq 0 1 1] g) fun r => r.1 = .int .u64 (tagI A B D) ∧ (∃ js, r.2.1 = g ++ js) ∧ r.2.2 = [] := by
  have lp := (List.getElem?_eq_some_iff.1 hp).1
  simp (maxDischargeDepth := 9) -implicitDefEqProofs only [push_cast, simprocAttr, M45, nadd1, nadd2, nadd3, nadd4, nadd5, nadd6, nadd7, nadd8, nadd9, nadd10, nadd11, nadd12]
  obtain ⟨q, hq⟩ : ∃ q, g.length + 1 = q := ⟨_, rfl⟩
  obtain ⟨H, hH⟩ : ∃ H, g ++ [ABlk.new (.vals [.int .u32 id, .int .u64 A, .int .u64 B]), ⟨.tip false, .ints .u64 (startV A B).l⟩] = H := ⟨_, rfl⟩
  have hH2 : g ++ [ABlk.new (.vals [.int .u32 id, .int .u64 A, .int .u64 B]), ABlk.new (.ints .u64 [abits .xor .u64 A 8317987319222330741, abits .xor .u64 B 7237128888997146477, abits .xor .u64 A 7816392313619706465, abits .xor .u64 B 8387220255154660723])] = H := hH
  rw [hH2, hq]
  have hG : Good H := by rw [← hH]; exact good_app hg rfl
  have hqH : H[q]? = some ⟨.tip false, .ints .u64 (startV A B).l⟩ := by rw [← hH, ← hq, List.getElem?_append_right (by omega)]; simp
  have lq := (List.getElem?_eq_some_iff.1 hqH).1
  have hlo : ¬ q < g.length := by omega
  have hpH : ∀ z, (H.set q z)[pq]? = some ⟨.tip false, .vals [b]⟩ := fun z => by rw [List.getElem?_set_ne (by omega), ← hH, List.getElem?_append_left lp]; exact hp
  have lpH : pq < H.length := by omega
  have hqs : ∀ z : ABlk, (H.set q z)[q]? = some z := fun z => List.getElem?_set_self lq
  have hbH : ∀ l, BV (H.set q ⟨.tip false, .ints .u64 l⟩) b D := fun l => by
    have b1 : BV H b D := by rw [← hH]; exact hb.app _
    have : BV (g ++ ([⟨.tip false, .vals [.int .u32 id, .int .u64 A, .int .u64 B]⟩, ⟨.tip false, .ints .u64 l⟩] : AHeap)) b D := hb.app _
    have e : H.set q ⟨.tip false, .ints .u64 l⟩ = g ++ ([⟨.tip false, .vals [.int .u32 id, .int .u64 A, .int .u64 B]⟩, ⟨.tip false, .ints .u64 l⟩] : AHeap) := by
      rw [← hH, ← hq, List.set_append_right _ _ (by omega)]
      simp [ABlk.new]
    rw [e]
    exact this
  have hout : ∀ z : ABlk, ∃ js, H.set q z = g ++ js := fun z => ⟨[ABlk.new (.vals [.int .u32 id, .int .u64 A, .int .u64 B]), z], by rw [← hH, ← hq, List.set_append_right _ _ (by omega)]; simp⟩
  have hs0 : H = H.set q ⟨.tip false, .ints .u64 (startV A B).l⟩ := (set_same hqH).symm
  have eT := fun (v : V4) (m : Int) => takeW_c (h := H.set q ⟨.tip false, .ints .u64 v.l⟩) (v := v) (q := q) (m := m) (good_set hG rfl) (hqs _)
  have eR := fun (v : V4) => rounds_c (h := H.set q ⟨.tip false, .ints .u64 v.l⟩) (v := v) (q := q) (n := 4) (good_set hG rfl) (hqs _) (by decide) (by decide)
  simp only [List.set_set, Int.cast_ofNat_Int] at eT eR
  have nb := hb.na
  have lb := hb.len
  obtain ⟨N, hN⟩ : ∃ N, D.length = N := ⟨_, rfl⟩
  rw [hN] at lb hl
  refine wp_kRes (wp_kSeq (wp_kBlock ?_))
  refine wp_loop (fun k a h' ws => ∃ i : Int, k = (1 - i).toNat ∧ (i = 0 ∨ i = 1) ∧ ∃ t : TS, t = (if i = 0 then ⟨startV A B, 0, 0⟩ else runT A B D) ∧ a = [(5, .ptr q 0), (6, .int .u64 t.w), (7, .int .u64 (t.n : Int)), (26, .sl pq 0 1 1), (27, .int .i64 1), (28, .int .i64 i)] ∧ h' = H.set q ⟨.tip false, .ints .u64 t.v.l⟩ ∧ ws = []) 1 ?_ ?_
  · refine ⟨0, rfl, Or.inl rfl, ⟨startV A B, 0, 0⟩, rfl, ?_, hs0, rfl⟩
    simp (maxDischargeDepth := 9) -implicitDefEqProofs only [push_cast, simprocAttr]; try rfl
  · rintro k aa h' ws ⟨i, rfl, hi, t, ht, rfl, rfl, rfl⟩
    rcases hi with rfl | rfl
    · simp only [if_true] at ht
      subst ht
      simp (maxDischargeDepth := 9) -implicitDefEqProofs only [push_cast, simprocAttr, hpH, lpH, nb, lb, List.length_set]
      refine wp_kSeq (wp_kBlock (wp_kBlock ?_))
      refine wp_loop (fun k a h' ws => ∃ (i : Nat) (t : TS), k = N - i ∧ i ≤ N ∧ runT A B (D.take i) = t ∧ a = [(5, .ptr q 0), (6, .int .u64 t.w), (7, .int .u64 (t.n : Int)), (26, .sl pq 0 1 1), (27, .int .i64 1), (28, .int .i64 0), (32, b), (33, .int .i64 (N : Int)), (34, .int .i64 (i : Int))] ∧ h' = H.set q ⟨.tip false, .ints .u64 t.v.l⟩ ∧ ws = []) N ?_ ?_
      · refine ⟨0, ⟨startV A B, 0, 0⟩, by omega, by omega, rfl, ?_, rfl, rfl⟩
        simp (maxDischargeDepth := 9) -implicitDefEqProofs only [push_cast, simprocAttr, nb]; try rfl
      · rintro k aa h' ws ⟨i, t, rfl, hi, ht, rfl, rfl, rfl⟩
        have htn : t.n = i := by rw [← ht, runT_n, List.length_take]; omega
        have v1 : IntKind.i64.wrap ((i : Int) + 1) = (i : Int) + 1 := wr_i64 _ (by omega) (by omega)
        by_cases hlt : i < N
        · have hlt' : (i : Int) < (N : Int) := by omega
          obtain ⟨bb, o, st, l, hbb, hst, hia, hat⟩ := (hbH t.v.l).byte (by rintro rfl; simp at hN; omega)
          obtain ⟨c, hc⟩ : ∃ c, D[i]? = some c := ⟨_, List.getElem?_eq_getElem (by omega)⟩
          have hi1 := hia (H.set q ⟨.tip false, .ints .u64 t.v.l⟩) i (by omega)
          have hld : ldV none (H.set q ⟨.tip false, .ints .u64 t.v.l⟩) (some (.ptr bb (o + i))) = some (.int .u8 c, H.set q ⟨.tip false, .ints .u64 t.v.l⟩, []) := by
            have hcc : cellsAt (H.set q ⟨.tip false, .ints .u64 t.v.l⟩) bb = some (.ints .u8 l) := cellsAt_of hbb (by rcases hst with rfl | ⟨_, rfl⟩ <;> simp)
            simp only [ldV, hcc, Option.bind_some, loadA, ACells.get?, hat i c hc, Option.map_some]
          have hcb := hb.1 _ (List.mem_of_getElem? hc)
          have hs : runT A B (D.take (i + 1)) = stepT t c := by
            rw [← ht, ← runT_snoc, List.take_add_one, hc]; rfl
          have w1 : IntKind.u64.wrap c = c := wr_u64 _ (by omega) (by omega)
          obtain ⟨r, hr⟩ : ∃ r, i % 8 = r := ⟨_, rfl⟩
          have m1 : Int.tmod (i : Int) 8 = (r : Int) := by rw [Int.tmod_eq_emod_of_nonneg (by omega)]; omega
          obtain ⟨y, hy⟩ : ∃ y, 8 * r = y := ⟨_, rfl⟩
          have w2 : IntKind.u64.wrap (8 * (r : Int)) = (y : Int) := by rw [wr_u64 _ (by omega) (by omega)]; omega
          have y0 : ¬ (y : Int) < 0 := by omega
          have y1 : min y 64 = y := by omega
          have w3 : IntKind.u64.wrap ((i : Int) + 1) = (i : Int) + 1 := wr_u64 _ (by omega) (by omega)
          have w5 : IntKind.u64.wrap (r : Int) = (r : Int) := wr_u64 _ (by omega) (by omega)
          obtain ⟨r2, hr2⟩ : ∃ r, (i + 1) % 8 = r := ⟨_, rfl⟩
          have m2 : Int.tmod ((i : Int) + 1) 8 = (r2 : Int) := by rw [Int.tmod_eq_emod_of_nonneg (by omega)]; omega
          have w6 : IntKind.u64.wrap (r2 : Int) = (r2 : Int) := wr_u64 _ (by omega) (by omega)
          rw [htn]
          simp (maxDischargeDepth := 9) -implicitDefEqProofs only [push_cast, simprocAttr, hlt, hlt', v1, nb, lb, ↓ia_eq, hi1, ↓ldv_eq 36, hld, w1, m1, w2, w3, w5, m2, w6, y0, y1, Int.toNat_natCast]
          have hst' : stepT t c = if (r2 : Int) = 0 then ⟨takeW t.v (orI t.w (shlI c y)), 0, i + 1⟩ else ⟨t.v, orI t.w (shlI c y), i + 1⟩ := by
            unfold stepT
            rw [htn, hr, hy, hr2]
            by_cases h0 : r2 = 0
            · rw [if_pos h0, if_pos (by omega)]
            · rw [if_neg h0, if_neg (by omega)]
          have hcast : (((i + 1 : Nat)) : Int) = (i : Int) + 1 := by omega
          have eT' := eT t.v (orI t.w (shlI c y))
          simp only [orI, shlI] at eT' hst'
          rcases Classical.propComplete ((r2 : Int) = 0) with c5 | c5
          · rw [if_pos (of_eq_true c5)] at hst'
            simp (maxDischargeDepth := 9) -implicitDefEqProofs only [push_cast, simprocAttr, c5, decide_true, eT', hlo, v1]
            refine loop_next (N - (i + 1)) (by omega) ⟨i + 1, _, rfl, by omega, hs.trans hst', ?_, rfl, rfl⟩
            rw [hcast]
            simp (maxDischargeDepth := 9) -implicitDefEqProofs only [push_cast, simprocAttr, nb]; try simp
          · rw [if_neg (of_eq_false c5)] at hst'
            simp (maxDischargeDepth := 9) -implicitDefEqProofs only [push_cast, simprocAttr, c5, decide_false, v1]
            refine loop_next (N - (i + 1)) (by omega) ⟨i + 1, _, rfl, by omega, hs.trans hst', ?_, rfl, rfl⟩
            rw [hcast]
            simp (maxDischargeDepth := 9) -implicitDefEqProofs only [push_cast, simprocAttr, nb]; try simp
        · have hi2 : i = N := by omega
          have hnl : ¬ (i : Int) < (N : Int) := by omega
          have hD : D.take i = D := by rw [hi2, ← hN, List.take_length]
          rw [hD] at ht
          simp (maxDischargeDepth := 9) -implicitDefEqProofs only [push_cast, simprocAttr, hnl, nb]
          refine loop_next 0 (by decide) ⟨1, rfl, Or.inr rfl, t, by simp [ht], ?_, rfl, rfl⟩
          simp (maxDischargeDepth := 9) -implicitDefEqProofs only [push_cast, simprocAttr]; try rfl
    · simp only [show ¬ (1 : Int) = 0 by decide, if_false] at ht
      subst ht
      obtain ⟨t, ht⟩ : ∃ t, runT A B D = t := ⟨_, rfl⟩
      have htn : t.n = N := by rw [← ht, runT_n, hN]
      have hti : tagI A B D = (let u := takeW t.v (orI t.w (shlI (t.n : Int) 56)); let z := iterV 4 { u with c := xorI u.c 255 }; xorI (xorI (xorI z.a z.b) z.c) z.d) := by unfold tagI; rw [ht]
      rw [ht, hti]
      have eT' := eT t.v (orI t.w (shlI (t.n : Int) 56))
      obtain ⟨u, hu⟩ : ∃ u, takeW t.v (orI t.w (shlI (t.n : Int) 56)) = u := ⟨_, rfl⟩
      rw [hu] at eT' ⊢
      simp only [orI, shlI, Int.reducePow] at eT'
      have eR' := eR { u with c := xorI u.c 255 }
      obtain ⟨z, hz⟩ : ∃ z, iterV 4 { u with c := xorI u.c 255 } = z := ⟨_, rfl⟩
      rw [hz] at eR'
      simp only [hz]
      have hul : u.l = [u.a, u.b, u.c, u.d] := rfl
      simp only [V4.l, xorI] at eR'
      rw [hul] at eT'
      simp only [xorI]
      simp (maxDischargeDepth := 9) -implicitDefEqProofs only [push_cast, simprocAttr, eT', hlo, hqs, lq, List.length_set, List.set_set, eR']
      exact hout _
theorem tag_c {h : AHeap} {id A B : Int} {b : AV} {D : List Int} {pq : Nat} (hg : Good h) (hp : h[pq]? = some ⟨.tip false, .vals [b]⟩) (hb : BV h b D) (hl : D.length < 1000000) : W CP 45 [.agg [.int .u32 id, .int .u64 A, .int .u64 B], .sl pq 0 1 1] h = some (.int .u64 (tagI A B D), h, []) :=
  W_quietP (m := M45) rfl rfl (by simp [AV.lts, AV.lt]) rfl rfl hg ((tag_key hg hp hb hl).mono fun r hr => ⟨hr.1, hr.2.1, hr.2.2⟩)
end Go.Proofs.YtdpbbagllhfjbaaDoorW.AI.G
