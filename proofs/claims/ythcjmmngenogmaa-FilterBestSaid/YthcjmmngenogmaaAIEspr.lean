import Derived.Test.YthcjmmngenogmaaAIEbigB
import Derived.Test.YthcjmmngenogmaaAIEspanA
namespace Go.Proofs.YthcjmmngenogmaaW.AI.E
open Go Go.Proofs.YthcjmmngenogmaaW.AI
set_option maxRecDepth 100000
set_option linter.unusedSimpArgs false
set_option linter.unusedVariables false
set_option linter.unusedSectionVars false
theorem neg_div {m c : Int} (hc : 0 < c) : (-m) / c = -(m / c + if m % c = 0 then 0 else 1) := by
  have h1 := Int.mul_ediv_add_emod m c
  have h2 := Int.emod_nonneg m (show c ≠ 0 by omega)
  have h3 := Int.emod_lt_of_pos m hc
  split
  · rename_i h
    rw [Int.add_zero]
    exact ((Int.ediv_emod_unique (r := 0) hc).2 ⟨by rw [Int.mul_neg]; omega, by omega, hc⟩).1
  · exact ((Int.ediv_emod_unique (r := c - m % c) hc).2 ⟨by rw [Int.mul_neg, Int.mul_add]; omega, by omega, by omega⟩).1
theorem md_sgn {S c : Int} (hc : 0 < c) (up : Bool) : 0 ≤ aN S / c + (if aN S % c = 0 ∨ decide (S < 0) = up then 0 else 1) ∧
    sgn (decide (S < 0)) (aN S / c + (if aN S % c = 0 ∨ decide (S < 0) = up then 0 else 1)) = if up then -(-S / c) else S / c := by
  have h0 := Int.ediv_nonneg (aN_pos S) (Int.le_of_lt hc)
  refine ⟨by split <;> omega, ?_⟩
  by_cases h : S < 0
  · have e : aN S = -S := if_pos h
    rw [decide_eq_true h, e]
    cases up with
    | true => simp [sgn]
    | false =>
      have := neg_div (m := -S) hc
      rw [Int.neg_neg] at this
      simp only [sgn, if_true, Bool.false_eq_true, if_false, this]
      simp
  · have e : aN S = S := if_neg h
    rw [decide_eq_false h, e]
    cases up with
    | false => simp [sgn]
    | true =>
      have := neg_div (m := S) hc
      simp only [sgn, if_true, Bool.false_eq_true, if_false, this]
      simp
theorem told_q (s : Bool) (V : Int) (h0 : 0 ≤ V) : toldV s V = qres (sgn s V) := by
  have e : intR s V = true ↔ I64 (sgn s V) := by
    unfold intR sgn I64
    rw [decide_eq_true_eq]
    cases s
    · simp; omega
    · by_cases hV : V = 0
      · subst hV; simp
      · simp [hV]; omega
  unfold toldV qres
  by_cases h : intR s V = true
  · rw [if_pos h, if_pos (e.1 h)]
  · rw [if_neg h, if_neg (fun k => h (e.2 k))]
/-- ref01.MulDiv is what fix.MulDiv and fix.MulDivUp are. -/
theorem mdV_q {a b c : Int} (up : Bool) (hc : 0 < c) : mdV a b c up = qres (mdv up a b c) := by
  obtain ⟨h0, h1⟩ := md_sgn (S := a * b) hc up
  unfold mdV
  rw [if_neg (by omega), told_q _ _ h0, h1]
  rfl
theorem ref_MulDiv {a b c : Int} {up : Bool} {h : AHeap} (hg : Good h) (ha : I64 a) (hb : I64 b) (hc : 0 < c ∧ c ≤ 9223372036854775807) :
    W CP 68 [.int .i64 a, .int .i64 b, .int .i64 c, .bool up] h = some (qres (mdv up a b c), h, []) := by
  rw [MulDiv_c hg ha.1 ha.2 hb.1 hb.2 (by omega) hc.2, mdV_q up hc.1]
theorem ref_Near {t : Int} (h : AHeap) : W CP 116 [.int .i64 t] h = some (.int .i64 (bro t), h, []) := by
  refine W_val (m := M116) (fun _ => rfl) rfl rfl rfl ?_ h
  unfold bro clamp
  by_cases c1 : t < 0
  · simp (maxDischargeDepth := 9) -implicitDefEqProofs only [push_cast, simprocAttr, M116, c1]
  · by_cases c2 : 4611686018427387904 < t
    · simp (maxDischargeDepth := 9) -implicitDefEqProofs only [push_cast, simprocAttr, M116, c1, c2]
    · simp (maxDischargeDepth := 9) -implicitDefEqProofs only [push_cast, simprocAttr, M116, c1, c2]
/-- What ref19.part answers. -/
def partV (up : Bool) (n c : Int) : Int := if n ≤ 0 then 0 else if I64 (mdv up n 1000000000 c) then bro (mdv up n 1000000000 c) else 4611686018427387904
theorem mdv_pos {up : Bool} {a b c : Int} (hc : 0 < c) (h : 0 ≤ a * b) : 0 ≤ mdv up a b c := by
  have h0 := Int.ediv_nonneg h (Int.le_of_lt hc)
  unfold mdv
  cases up
  · exact h0
  · rw [neg_div hc]; simp; split <;> omega
theorem ref_part {n c : Int} {up : Bool} (hn : I64 n) (hc : 0 < c ∧ c ≤ 9223372036854775807) (h : AHeap) : W CP 117 [.int .i64 n, .int .i64 c, .bool up] h = some (.int .i64 (partV up n c), h, []) := by
  refine W_val (m := M117) (fun _ => rfl) rfl rfl rfl ?_ h
  have em := ref_MulDiv (up := up) gl_good hn (show I64 1000000000 from ⟨by decide, by decide⟩) hc
  unfold partV
  by_cases c1 : n ≤ 0
  · rw [if_pos c1]
    simp (maxDischargeDepth := 9) -implicitDefEqProofs only [push_cast, simprocAttr, M117, c1]
  rw [if_neg c1]
  have hv0 := mdv_pos (up := up) hc.1 (show 0 ≤ n * 1000000000 by omega)
  obtain ⟨v, hv⟩ : ∃ v, mdv up n 1000000000 c = v := ⟨_, rfl⟩
  rw [hv] at em hv0 ⊢
  unfold qres at em
  by_cases hi : I64 v
  · rw [if_pos hi]
    rw [if_pos hi] at em
    by_cases c2 : 4611686018427387904 < v
    · have e : bro v = 4611686018427387904 := by unfold bro clamp; rw [if_neg (by omega), if_pos c2]
      rw [e]
      simp (maxDischargeDepth := 9) -implicitDefEqProofs only [push_cast, simprocAttr, M117, c1, em, c2]
    · rw [bro_id hv0 (by omega)]
      simp (maxDischargeDepth := 9) -implicitDefEqProofs only [push_cast, simprocAttr, M117, c1, em, c2]
  · rw [if_neg hi]
    rw [if_neg hi] at em
    simp (maxDischargeDepth := 9) -implicitDefEqProofs only [push_cast, simprocAttr, M117, c1, em]
theorem part_up {t f x : Int} (h1 : 1 ≤ t) (h4 : f ≤ 500000) : partV true (bro x + t + 1) (1000000000 - f) = upV t f x := by
  have := bro_in x
  unfold partV upV
  rw [if_neg (by omega)]
theorem part_down {t f x : Int} (h1 : 1 ≤ t) (h2 : t ≤ 1000000000) (h3 : 0 ≤ f) (h4 : f ≤ 500000) : partV false (bro x - t - 1) (1000000000 + f) = downV t f x := by
  obtain ⟨b1, b2⟩ := bro_in x
  unfold partV downV
  obtain ⟨y, hy⟩ : ∃ y, bro x = y := ⟨_, rfl⟩
  rw [hy] at b1 b2 ⊢
  by_cases c : y - t - 1 ≤ 0
  · rw [if_pos c]
    have : mdv false (y - t - 1) 1000000000 (1000000000 + f) ≤ 0 := by
      unfold mdv
      simp only [Bool.false_eq_true, if_false]
      have := Int.ediv_le_ediv (a := (y - t - 1) * 1000000000) (b := 0) (c := 1000000000 + f) (by omega) (by omega)
      simpa using this
    unfold bro clamp
    split
    · rfl
    · split <;> omega
  · rw [if_neg c, if_pos]
    unfold mdv
    simp only [Bool.false_eq_true, if_false]
    constructor
    · exact Int.le_ediv_of_mul_le (by omega) (by omega)
    · have := Int.ediv_lt_of_lt_mul (a := (y - t - 1) * 1000000000) (b := 9223372036854775808) (c := 1000000000 + f) (by omega) (by omega)
      omega
def RulR (h : AHeap) (p : Nat) (t f : Int) : Prop := h[p]? = some ⟨.tip false, .ints .i64 [t, f]⟩ ∧ p < h.length ∧ 1 ≤ t ∧ t ≤ 1000000000 ∧ 0 ≤ f ∧ f ≤ 500000
theorem RulR.app {h : AHeap} {p : Nat} {t f : Int} (r : RulR h p t f) (js : AHeap) : RulR (h ++ js) p t f := by
  obtain ⟨h1, h2, h3⟩ := r
  exact ⟨by rw [List.getElem?_append_left h2]; exact h1, by simp; omega, h3⟩
theorem ref_Up {h : AHeap} {p : Nat} {t f x : Int} (hg : Good h) (r : RulR h p t f) : W CP 109 [.ptr p 0, .int .i64 x] h = some (.int .i64 (upV t f x), h, []) := by
  obtain ⟨h1, h2, h3, h4, h5, h6⟩ := r
  have h2' : ¬ h.length ≤ p := by omega
  rw [← part_up h3 h6]
  have ebx := fun g => ref_Near (t := x) g
  obtain ⟨b1, b2⟩ := bro_in x
  obtain ⟨y, hy⟩ : ∃ y, bro x = y := ⟨_, rfl⟩
  rw [hy] at ebx b1 b2 ⊢
  have w1 : IntKind.i64.wrap (y + t) = y + t := wr_i64 _ (by omega) (by omega)
  have w2 : IntKind.i64.wrap (y + t + 1) = y + t + 1 := wr_i64 _ (by omega) (by omega)
  have w3 : IntKind.i64.wrap (1000000000 - f) = 1000000000 - f := wr_i64 _ (by omega) (by omega)
  have em := fun g => ref_part (n := y + t + 1) (c := 1000000000 - f) (up := true) ⟨by omega, by omega⟩ ⟨by omega, by omega⟩ g
  refine W_quiet0 (m := M109) rfl rfl (by simp [AV.lts, AV.lt]) rfl rfl hg ?_
  simp (maxDischargeDepth := 9) -implicitDefEqProofs only [push_cast, simprocAttr, M109, h1, h2, h2', ebx, w1, w2, w3, em]
theorem ref_Down {h : AHeap} {p : Nat} {t f x : Int} (hg : Good h) (r : RulR h p t f) : W CP 108 [.ptr p 0, .int .i64 x] h = some (.int .i64 (downV t f x), h, []) := by
  obtain ⟨h1, h2, h3, h4, h5, h6⟩ := r
  have h2' : ¬ h.length ≤ p := by omega
  rw [← part_down h3 h4 h5 h6]
  have ebx := fun g => ref_Near (t := x) g
  obtain ⟨b1, b2⟩ := bro_in x
  obtain ⟨y, hy⟩ : ∃ y, bro x = y := ⟨_, rfl⟩
  rw [hy] at ebx b1 b2 ⊢
  have w1 : IntKind.i64.wrap (y - t) = y - t := wr_i64 _ (by omega) (by omega)
  have w2 : IntKind.i64.wrap (y - t - 1) = y - t - 1 := wr_i64 _ (by omega) (by omega)
  have w3 : IntKind.i64.wrap (1000000000 + f) = 1000000000 + f := wr_i64 _ (by omega) (by omega)
  have em := fun g => ref_part (n := y - t - 1) (c := 1000000000 + f) (up := false) ⟨by omega, by omega⟩ ⟨by omega, by omega⟩ g
  refine W_quiet0 (m := M108) rfl rfl (by simp [AV.lts, AV.lt]) rfl rfl hg ?_
  simp (maxDischargeDepth := 9) -implicitDefEqProofs only [push_cast, simprocAttr, M108, h1, h2, h2', ebx, w1, w2, w3, em]
theorem ref_is {h : AHeap} {q : Nat} {l : List Int} (hg : Good h) (hq : h[q]? = some ⟨.tip false, .ints .i64 l⟩) (hl : l.length < 1000) : W CP 106 [.sl q 0 l.length l.length] h = some (.bool (l.all okT), h, []) := by
  have hql := (List.getElem?_eq_some_iff.1 hq).1
  refine W_quietP (m := M106) rfl rfl (by simp [AV.lts, AV.lt]) rfl rfl hg ?_
  simp (maxDischargeDepth := 9) -implicitDefEqProofs only [push_cast, simprocAttr, M106]
  refine wp_kRes (wp_kSeq (wp_kBlock ?_))
  refine wp_loop (fun k a h' ws => ∃ i : Nat, k = l.length - i ∧ i ≤ l.length ∧ (l.take i).all okT = true ∧ a = [(0, .sl q 0 l.length l.length), (3, .int .i64 (i : Int))] ∧ h' = h ∧ ws = []) l.length ?_ ?_
  · refine ⟨0, by omega, by omega, rfl, ?_, rfl, rfl⟩
    simp (maxDischargeDepth := 9) -implicitDefEqProofs only [push_cast, simprocAttr]; try rfl
  · rintro k aa h' ws ⟨i, rfl, hi, hall, rfl, rfl, rfl⟩
    have v1 : IntKind.i64.wrap ((i : Int) + 1) = (i : Int) + 1 := wr_i64 _ (by omega) (by omega)
    by_cases hlt : i < l.length
    · have hlt' : (i : Int) < (l.length : Int) := by omega
      obtain ⟨x, hx⟩ : ∃ x, l[i]? = some x := ⟨_, List.getElem?_eq_getElem hlt⟩
      have htk : l.take (i + 1) = l.take i ++ [x] := by rw [List.take_add_one, hx]; rfl
      by_cases hok : 0 ≤ x ∧ x ≤ 4611686018427387904
      · have x1 : ¬ x < 0 := by omega
        have x2 : ¬ 4611686018427387904 < x := by omega
        simp (maxDischargeDepth := 9) -implicitDefEqProofs only [push_cast, simprocAttr, hlt, hlt', v1, hq, hx, x1, x2]
        refine loop_next (l.length - (i + 1)) (by omega) ⟨i + 1, rfl, by omega, ?_, ?_, rfl, rfl⟩
        · rw [htk, List.all_append, hall]
          simp [okT, hok.1, hok.2]
        · simp (maxDischargeDepth := 9) -implicitDefEqProofs only [push_cast, simprocAttr]; try simp
      · have hf : l.all okT = false := by
          rw [← Bool.not_eq_true, List.all_eq_true]
          intro hh
          have := hh x (List.mem_of_getElem? hx)
          simp only [okT, decide_eq_true_eq] at this
          exact hok this
        rw [hf]
        by_cases x1 : x < 0
        · simp (maxDischargeDepth := 9) -implicitDefEqProofs only [push_cast, simprocAttr, hlt, hlt', v1, hq, hx, x1]
          exact quiet_0
        · have x2 : 4611686018427387904 < x := by omega
          simp (maxDischargeDepth := 9) -implicitDefEqProofs only [push_cast, simprocAttr, hlt, hlt', v1, hq, hx, x1, x2]
          exact quiet_0
    · have hi2 : i = l.length := by omega
      subst hi2
      rw [List.take_length] at hall
      have hnl : ¬ (l.length : Int) < (l.length : Int) := by omega
      simp (maxDischargeDepth := 9) -implicitDefEqProofs only [push_cast, simprocAttr, hall]
      exact quiet_0
theorem ref_May {a l u : Int} (h : AHeap) : W CP 84 [spA a l u] h = some (.bool (mayS a l u), h, []) := by
  have et := ref_is (h := CP.gl ++ [⟨.tip false, .ints .i64 [a, l, u]⟩, ⟨.tip false, .ints .i64 [a, l, u]⟩]) (q := CP.gl.length + 1) (l := [a, l, u]) (by rfl) (by rfl) (by simp)
  simp only [List.length_cons, List.length_nil, Nat.reduceAdd] at et
  have e3 : ([a, l, u].all okT) = (okT a && okT l && okT u) := by simp [Bool.and_assoc]
  rw [e3] at et
  refine W_val (m := M84) (fun _ => rfl) rfl rfl rfl ?_ h
  unfold mayS
  cases hb : (okT a && okT l && okT u) with
  | false =>
    rw [hb] at et
    simp (maxDischargeDepth := 9) -implicitDefEqProofs only [push_cast, simprocAttr, M84, et]
  | true =>
    rw [hb] at et
    by_cases c : l ≤ u
    · simp (maxDischargeDepth := 9) -implicitDefEqProofs only [push_cast, simprocAttr, M84, et, c]
    · simp (maxDischargeDepth := 9) -implicitDefEqProofs only [push_cast, simprocAttr, M84, et, c]
theorem ref_Mid {a l u : Int} (h : AHeap) : W CP 110 [spA a l u] h = some (.int .i64 (midS a l u), h, []) := by
  have em := fun g => ref_May (a := a) (l := l) (u := u) g
  refine W_val (m := M110) (fun _ => rfl) rfl rfl rfl ?_ h
  unfold midS
  cases hb : mayS a l u with
  | false =>
    rw [hb] at em
    simp (maxDischargeDepth := 9) -implicitDefEqProofs only [push_cast, simprocAttr, M110, em]
    try rfl
  | true =>
    rw [hb] at em
    have hm := mayS_iff.1 hb
    have e1 : (u - l).tdiv 2 = (u - l) / 2 := Int.tdiv_eq_ediv_of_nonneg (by omega)
    obtain ⟨d, hd⟩ : ∃ d, (u - l) / 2 = d := ⟨_, rfl⟩
    have w1 : IntKind.i64.wrap (u - l) = u - l := wr_i64 _ (by omega) (by omega)
    have w2 : IntKind.i64.wrap d = d := wr_i64 _ (by omega) (by omega)
    have w3 : IntKind.i64.wrap (l + d) = l + d := wr_i64 _ (by omega) (by omega)
    rw [hd] at e1 ⊢
    simp (maxDischargeDepth := 9) -implicitDefEqProofs only [push_cast, simprocAttr, M110, em, w1, e1, w2, w3]
    try rfl
end Go.Proofs.YthcjmmngenogmaaW.AI.E
namespace Go.Proofs.YthcjmmngenogmaaW.AI.E
open Go Go.Proofs.YthcjmmngenogmaaW.AI
set_option maxRecDepth 100000
set_option linter.unusedSimpArgs false
set_option linter.unusedVariables false
set_option linter.unusedSectionVars false
theorem BigS.uv {S : Int} {n : Nat} {H : AHeap} {p : Bool} {v : AV} (b : BigS S n H (.agg [.bool p, v])) : p = decide (S < 0) ∧ ∃ L, UV H v L ∧ val L = aN S ∧ Can L ∧ L.length ≤ n := by
  obtain ⟨v', L, e, u⟩ := b
  simp only [AV.agg.injEq, List.cons.injEq, AV.bool.injEq, and_true] at e
  obtain ⟨rfl, rfl⟩ := e
  exact ⟨rfl, L, u⟩
set_option maxHeartbeats 8000000 in
theorem ref_sum {h : AHeap} {q : Nat} {l : List Int} (hg : Good h) (hq : h[q]? = some ⟨.tip false, .ints .i64 l⟩) (hl : l.length < 100) (hI : ∀ x ∈ l, I64 x) : W CP 107 [.sl q 0 l.length l.length] h = some (.int .i64 (bro l.sum), h, []) := by
  have hql := (List.getElem?_eq_some_iff.1 hq).1
  refine W_quietP (m := M107) rfl rfl (by simp [AV.lts, AV.lt]) rfl rfl hg ?_
  obtain ⟨Y, hY⟩ : ∃ Y, h ++ [ABlk.new (.vals [.bool false, .nils])] = Y := ⟨_, rfl⟩
  have kY : Keeps h Y none := by rw [← hY]; exact Keeps.app h [⟨.tip false, .vals [.bool false, .nils]⟩] none rfl
  have bY : Y[h.length]? = some ⟨.tip false, .vals [.bool false, .nils]⟩ := by rw [← hY]; exact end_get4 _ _ _
  have lY := (List.getElem?_eq_some_iff.1 bY).1
  obtain ⟨Z, hZ⟩ : ∃ Z, Y.set h.length ⟨.tip false, .vals [.bool false, .nils]⟩ = Z := ⟨_, rfl⟩
  have kZ : Keeps h Z none := by rw [← hZ]; exact keepsS kY (Nat.le_refl _) rfl
  have bZ : Z[h.length]? = some ⟨.tip false, .vals [.bool false, .nils]⟩ := by rw [← hZ]; exact List.getElem?_set_self lY
  simp (maxDischargeDepth := 9) -implicitDefEqProofs only [push_cast, simprocAttr, M107, hY, bY, lY, hZ]
  refine wp_kRes (wp_kSeq (wp_kBlock ?_))
  refine wp_loop (fun k a h' ws => ∃ (i : Nat) (v : AV) (L : List Int), k = l.length - i ∧ i ≤ l.length ∧ a = [(0, .sl q 0 l.length l.length), (3, .ptr h.length 0), (4, .int .i64 (i : Int))] ∧
      h'[h.length]? = some ⟨.tip false, .vals [.bool (decide ((l.take i).sum < 0)), v]⟩ ∧ UV h' v L ∧ val L = aN (l.take i).sum ∧ Can L ∧ L.length ≤ 4 + i ∧ Keeps h h' none ∧ ws = []) l.length ?_ ?_
  · refine ⟨0, .nils, [], by omega, by omega, ?_, ?_, UV.nil _, by simp [val, aN], by intro d hd; simp at hd, by simp, ?_, rfl⟩
    · simp (maxDischargeDepth := 9) -implicitDefEqProofs only [push_cast, simprocAttr]; try rfl
    · first | (simp only [List.take_zero, List.sum_nil]; exact bZ) | exact bZ
    · exact kZ
  · rintro k aa h' ws ⟨i, v, L, rfl, hi, rfl, b0, uv, vL, cL, lL, kh, rfl⟩
    have hgh := kh.2.2 hg
    have lb := (List.getElem?_eq_some_iff.1 b0).1
    have nv := uv.na
    have cv := uv.cell
    have v1 : IntKind.i64.wrap ((i : Int) + 1) = (i : Int) + 1 := wr_i64 _ (by omega) (by omega)
    have hq' := keepsN kh _ _ hq
    have hql' := (List.getElem?_eq_some_iff.1 hq').1
    obtain ⟨S, hS⟩ : ∃ S, (l.take i).sum = S := ⟨_, rfl⟩
    rw [hS] at b0 vL
    by_cases hlt : i < l.length
    · have hlt' : (i : Int) < (l.length : Int) := by omega
      obtain ⟨x, hx⟩ : ∃ x, l[i]? = some x := ⟨_, List.getElem?_eq_getElem hlt⟩
      have ix := hI x (List.mem_of_getElem? hx)
      have htk : (l.take (i + 1)).sum = S + x := by rw [List.take_add_one, hx, List.sum_append, hS]; simp
      obtain ⟨r1, j1, e1, bb1, hG1, _⟩ := Of_c (z := x) ix.1 ix.2 hgh
      have k1 : Keeps h' (h' ++ j1) none := keepsG hG1
      obtain ⟨H1, hH1⟩ : ∃ H, h' ++ j1 = H := ⟨_, rfl⟩
      rw [hH1] at e1 bb1 hG1 k1
      have uv1 := uv.keep (keepsN k1)
      obtain ⟨r2, j2, e2, bb2, hG2, _⟩ := Plus_c hG1 (⟨v, L, rfl, uv1, vL, cL, lL⟩ : BigS S (4 + i) H1 _) (bb1 : BigS x 4 H1 r1) (by omega) (by decide)
      have k2 : Keeps H1 (H1 ++ j2) none := keepsG hG2
      obtain ⟨H2, hH2⟩ : ∃ H, H1 ++ j2 = H := ⟨_, rfl⟩
      rw [hH2] at e2 bb2 hG2 k2
      obtain ⟨x1, L1, rfl, u1, _⟩ := bb1
      obtain ⟨x2, L2, rfl, u2, w2, c2, l2⟩ := bb2
      have n1 := u1.na
      have i1 := u1.cell
      have n2 := u2.na
      have i2 := u2.cell
      have b2 := keepsN k2 _ _ (keepsN k1 _ _ b0)
      have lb2 := (List.getElem?_eq_some_iff.1 b2).1
      have hlo : ¬ h'.length ≤ h.length := by omega
      obtain ⟨H3, hH3⟩ : ∃ H, H2.set h.length ⟨.tip false, .vals [.bool (decide (S + x < 0)), x2]⟩ = H := ⟨_, rfl⟩
      have b3 : H3[h.length]? = some ⟨.tip false, .vals [.bool (decide (S + x < 0)), x2]⟩ := by rw [← hH3]; exact List.getElem?_set_self lb2
      have u3 : UV H3 x2 L2 := by rw [← hH3]; exact UV.setv b2 u2
      have k3 : Keeps h H3 none := by rw [← hH3]; exact keepsS (keepsT kh (keepsT k1 k2)) (Nat.le_refl _) rfl
      obtain ⟨pS, hpS⟩ : ∃ p, decide (S < 0) = p := ⟨_, rfl⟩
      rw [hpS] at b0 b2 e2
      obtain ⟨pT, hpT⟩ : ∃ p, decide (S + x < 0) = p := ⟨_, rfl⟩
      rw [hpT] at e2 hH3
      obtain ⟨px, hpx⟩ : ∃ p, decide (x < 0) = p := ⟨_, rfl⟩
      rw [hpx] at e1 e2
      have lz := uv.shape
      rcases uv.shape with rfl | ⟨_, _, _, rfl⟩ | ⟨_, _, _, rfl⟩
      all_goals
        simp (maxDischargeDepth := 9) -implicitDefEqProofs only [push_cast, simprocAttr, nadd1, nadd2, nadd3, nadd4, nadd5, nadd6, nadd7, nadd8, nadd9, nadd10, nadd11, nadd12, hlt, hlt', v1, hq', hql', hx, b0, lb, nv, cv, e1, n1, i1, e2, n2, i2, b2, lb2, hlo, hH3, decide_false, Bool.not_false, Bool.and_true]
        refine loop_next (l.length - (i + 1)) (by omega) ⟨i + 1, x2, L2, rfl, by omega, ?_, by rw [htk]; exact b3, u3, by rw [htk]; exact w2, c2, by omega, k3, rfl⟩
        simp (maxDischargeDepth := 9) -implicitDefEqProofs only [push_cast, simprocAttr]; try simp
    · have hi2 : i = l.length := by omega
      subst hi2
      rw [List.take_length] at hS
      have hnl : ¬ (l.length : Int) < (l.length : Int) := by omega
      rw [hS]
      obtain ⟨js, hj⟩ := kh.behind
      have eI := Int_c (s := decide (S < 0)) hgh uv (by omega)
      rw [vL] at eI
      by_cases c1 : S < 0
      · have e : bro S = 0 := by unfold bro clamp; rw [if_pos c1]
        rw [e]
        rw [decide_eq_true c1] at b0
        simp (maxDischargeDepth := 9) -implicitDefEqProofs only [push_cast, simprocAttr, nadd1, nadd2, nadd3, nadd4, nadd5, nadd6, nadd7, nadd8, nadd9, nadd10, nadd11, nadd12, hnl, b0, lb, nv, cv]
        exact ⟨rfl, ⟨js, hj⟩, rfl⟩
      · have e : aN S = S := if_neg c1
        rw [e, decide_eq_false c1] at eI
        rw [decide_eq_false c1] at b0
        by_cases c2 : S ≤ 9223372036854775807
        · have eR : intR false S = true := by simp [intR, c2]
          have eN := fun g => ref_Near (t := S) g
          rw [intZ_ok (by omega) eR, eR] at eI
          have eZ : sgn false S = S := rfl
          rw [eZ] at eI
          obtain ⟨Q, hQ⟩ : ∃ Q, bro S = Q := ⟨_, rfl⟩
          rw [hQ] at eN ⊢
          rcases uv.shape with rfl | ⟨_, _, _, rfl⟩ | ⟨_, _, _, rfl⟩
          all_goals
            simp (maxDischargeDepth := 9) -implicitDefEqProofs only [push_cast, simprocAttr, nadd1, nadd2, nadd3, nadd4, nadd5, nadd6, nadd7, nadd8, nadd9, nadd10, nadd11, nadd12, hnl, b0, lb, nv, cv, eI, eN]
            exact ⟨rfl, ⟨js, hj⟩, rfl⟩
        · have eR : intR false S = false := by simp [intR]; omega
          have e : bro S = 4611686018427387904 := by unfold bro clamp; rw [if_neg c1, if_pos (by omega)]
          rw [e]
          rw [eR] at eI
          rcases uv.shape with rfl | ⟨_, _, _, rfl⟩ | ⟨_, _, _, rfl⟩
          all_goals
            simp (maxDischargeDepth := 9) -implicitDefEqProofs only [push_cast, simprocAttr, nadd1, nadd2, nadd3, nadd4, nadd5, nadd6, nadd7, nadd8, nadd9, nadd10, nadd11, nadd12, hnl, b0, lb, nv, cv, eI]
            exact ⟨rfl, ⟨js, hj⟩, rfl⟩
theorem ref_New {t f : Int} (h1 : 1 ≤ t) (h2 : t ≤ 1000000000) (h3 : 0 ≤ f) (h4 : f ≤ 500000) (h : AHeap) :
    W CP 83 [.int .i64 t, .int .i64 f] h = some (.tup [.ptr h.length 0, .int .i64 0], h ++ [⟨.tip false, .ints .i64 [t, f]⟩], []) := by
  have c1 : ¬ t < 1 := by omega
  have c2 : ¬ 1000000000 < t := by omega
  have c3 : ¬ f < 0 := by omega
  have c4 : ¬ 500000 < f := by omega
  have hb : ∀ h : AHeap, xbody (W CP) M83 [.int .i64 t, .int .i64 f] h = some (.tup [.ptr h.length 0, .int .i64 0], h ++ [⟨.tip false, .ints .i64 [t, f]⟩], []) := by
    intro h
    simp (maxDischargeDepth := 9) -implicitDefEqProofs only [push_cast, simprocAttr, M83, c1, c2, c3, c4]
    try rfl
  rw [W_made (m := M83) rfl rfl rfl (hb _) rfl (hb h)]
  have : M83.trim = true := rfl
  rw [this, if_pos rfl, trim_addr (by simp [AV.lt, AV.lts])]
theorem ref_New_bad {t f : Int} (hb : t < 1 ∨ 1000000000 < t ∨ f < 0 ∨ 500000 < f) (h : AHeap) : W CP 83 [.int .i64 t, .int .i64 f] h = some (.tup [.nilp, .int .i64 1], h, []) := by
  refine W_val (m := M83) (fun _ => rfl) rfl rfl rfl ?_ h
  by_cases c1 : t < 1
  · simp (maxDischargeDepth := 9) -implicitDefEqProofs only [push_cast, simprocAttr, M83, c1]
  · by_cases c2 : 1000000000 < t
    · simp (maxDischargeDepth := 9) -implicitDefEqProofs only [push_cast, simprocAttr, M83, c1, c2]
    · by_cases c3 : f < 0
      · simp (maxDischargeDepth := 9) -implicitDefEqProofs only [push_cast, simprocAttr, M83, c1, c2, c3]
      · have c4 : 500000 < f := by omega
        simp (maxDischargeDepth := 9) -implicitDefEqProofs only [push_cast, simprocAttr, M83, c1, c2, c3, c4]
theorem gt1 (h : AHeap) (a b : ABlk) : (h ++ [a, b])[h.length + 1]? = some b := by rw [List.getElem?_append_right (by omega)]; simp
theorem gt2 (h : AHeap) (a b c : ABlk) : (h ++ [a, b, c])[h.length + 2]? = some c := by rw [List.getElem?_append_right (by omega)]; simp
theorem gt3 (h : AHeap) (a b c d : ABlk) : (h ++ [a, b, c, d])[h.length + 3]? = some d := by rw [List.getElem?_append_right (by omega)]; simp
theorem sum_of {h : AHeap} {q : Nat} {l : List Int} {n : Nat} {S : Int} (hg : Good h) (hq : h[q]? = some ⟨.tip false, .ints .i64 l⟩) (hn : l.length = n) (hl : n < 100) (hI : ∀ x ∈ l, I64 x) (hS : l.sum = S) : W CP 107 [.sl q 0 n n] h = some (.int .i64 (bro S), h, []) := by
  subst hn hS
  exact ref_sum hg hq hl hI
theorem ref_Age {h : AHeap} {p : Nat} {t f a l u raw : Int} (hg : Good h) (r : RulR h p t f) :
    W CP 86 [.ptr p 0, spA a l u, .int .i64 raw] h = some (if mayS a l u = true ∧ a ≤ raw ∧ raw ≤ 4611686018427387904 then .tup [spA raw (bro (l + downV t f (raw - a))) (bro (u + upV t f (raw - a))), .int .i64 0] else .tup [spA 0 0 0, .int .i64 1], h, []) := by
  have em := fun g => ref_May (a := a) (l := l) (u := u) g
  have hr := r
  obtain ⟨h1, h2, h3, h4, h5, h6⟩ := r
  refine W_quietP (m := M86) rfl rfl (by simp [AV.lts, AV.lt]) rfl (by split <;> rfl) hg ?_
  cases hm : mayS a l u with
  | false =>
    rw [hm] at em
    simp only [Bool.false_eq_true, false_and, if_false]
    simp (maxDischargeDepth := 9) -implicitDefEqProofs only [push_cast, simprocAttr, M86, em]
    exact quiet_i
  | true =>
    rw [hm] at em
    simp only [true_and]
    by_cases c1 : a ≤ raw
    · have c1' : ¬ raw < a := by omega
      by_cases c2 : raw ≤ 4611686018427387904
      · have c2' : ¬ 4611686018427387904 < raw := by omega
        have hmm := mayS_iff.1 hm
        rw [if_pos ⟨c1, c2⟩]
        obtain ⟨d, hd⟩ : ∃ d, raw - a = d := ⟨_, rfl⟩
        have w1 : IntKind.i64.wrap (raw - a) = d := by rw [wr_i64 _ (by omega) (by omega)]; exact hd
        rw [hd]
        have rU := upV_in t f d
        have rD := downV_in t f d
        have eD := ref_Down (x := d) (h := h ++ [⟨.tip false, .ints .i64 [a, l, u]⟩, ⟨.tip false, .ints .i64 [0, 0, 0]⟩]) (good_app hg rfl) (hr.app _)
        obtain ⟨D, hD⟩ : ∃ U, downV t f d = U := ⟨_, rfl⟩
        rw [hD] at eD rD ⊢
        have eL := sum_of (h := h ++ [⟨.tip false, .ints .i64 [a, l, u]⟩, ⟨.tip false, .ints .i64 [0, 0, 0]⟩, ⟨.tip false, .ints .i64 [l, D]⟩]) (q := h.length + 2) (l := [l, D]) (n := 2) (S := l + D) (good_app hg rfl) (gt2 _ _ _ _) rfl (by decide) (by intro x hx; simp at hx; unfold I64; omega) (by simp)
        have eU := ref_Up (x := d) (h := h ++ [⟨.tip false, .ints .i64 [a, l, u]⟩, ⟨.tip false, .ints .i64 [0, 0, 0]⟩, ⟨.tip false, .ints .i64 [l, D]⟩]) (good_app hg rfl) (hr.app _)
        obtain ⟨U, hU⟩ : ∃ U, upV t f d = U := ⟨_, rfl⟩
        rw [hU] at eU rU ⊢
        have eH := sum_of (h := h ++ [⟨.tip false, .ints .i64 [a, l, u]⟩, ⟨.tip false, .ints .i64 [0, 0, 0]⟩, ⟨.tip false, .ints .i64 [l, D]⟩, ⟨.tip false, .ints .i64 [u, U]⟩]) (q := h.length + 3) (l := [u, U]) (n := 2) (S := u + U) (good_app hg rfl) (gt3 _ _ _ _ _) rfl (by decide) (by intro x hx; simp at hx; unfold I64; omega) (by simp)
        have hlo1 : ¬ h.length + 2 ≤ h.length := by omega
        simp (maxDischargeDepth := 9) -implicitDefEqProofs only [push_cast, simprocAttr, M86, em, c1', c2', w1, eD, eL, eU, eH, decide_false, Bool.not_false, Bool.and_true]
        exact quiet_i
      · have c2' : 4611686018427387904 < raw := by omega
        rw [if_neg (fun e => c2 e.2)]
        simp (maxDischargeDepth := 9) -implicitDefEqProofs only [push_cast, simprocAttr, M86, em, c1', c2']
        exact quiet_i
    · have c1' : raw < a := by omega
      rw [if_neg (fun e => c1 e.1)]
      simp (maxDischargeDepth := 9) -implicitDefEqProofs only [push_cast, simprocAttr, M86, em, c1']
      exact quiet_i
end Go.Proofs.YthcjmmngenogmaaW.AI.E
