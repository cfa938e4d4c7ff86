import Derived.Test.YtcpiohklljppaaaAIDbig8
import Derived.Test.YtcpiohklljppaaaAIDspanA
namespace Go.Proofs.YtcpiohklljppaaaW.AI.D
open Go Go.Proofs.YtcpiohklljppaaaW.AI
set_option maxRecDepth 100000
set_option linter.unusedSimpArgs false
set_option linter.unusedVariables false
set_option linter.unusedSectionVars false
theorem neg_div {m c : Int} (hc : 0 < c) : (-m) / c = -(m / c + if m % c = 0 then 0 else 1) := by
  have h1 := Int.mul_ediv_add_emod m c
  have h2 := Int.emod_nonneg m (show c ≠ 0 by omega)
  have h3 := Int.emod_lt_of_pos m hc
  split
  · rename_i h
    rw [Int.add_zero]
    exact ((Int.ediv_emod_unique (r := 0) hc).2 ⟨by rw [Int.mul_neg]; omega, by omega, hc⟩).1
  · exact ((Int.ediv_emod_unique (r := c - m % c) hc).2 ⟨by rw [Int.mul_neg, Int.mul_add]; omega, by omega, by omega⟩).1
theorem md_sgn {S c : Int} (hc : 0 < c) (up : Bool) : 0 ≤ aN S / c + (if aN S % c = 0 ∨ decide (S < 0) = up then 0 else 1) ∧
    sgn (decide (S < 0)) (aN S / c + (if aN S % c = 0 ∨ decide (S < 0) = up then 0 else 1)) = if up then -(-S / c) else S / c := by
  have h0 := Int.ediv_nonneg (aN_pos S) (Int.le_of_lt hc)
  refine ⟨by split <;> omega, ?_⟩
  by_cases h : S < 0
  · have e : aN S = -S := if_pos h
    rw [decide_eq_true h, e]
    cases up with
    | true => simp [sgn]
    | false =>
      have := neg_div (m := -S) hc
      rw [Int.neg_neg] at this
      simp only [sgn, if_true, Bool.false_eq_true, if_false, this]
      simp
  · have e : aN S = S := if_neg h
    rw [decide_eq_false h, e]
    cases up with
    | false => simp [sgn]
    | true =>
      have := neg_div (m := S) hc
      simp only [sgn, if_true, Bool.false_eq_true, if_false, this]
      simp
theorem told_q (s : Bool) (V : Int) (h0 : 0 ≤ V) : toldV s V = qres (sgn s V) := by
  have e : intR s V = true ↔ I64 (sgn s V) := by
    unfold intR sgn I64
    rw [decide_eq_true_eq]
    cases s
    · simp; omega
    · by_cases hV : V = 0
      · subst hV; simp
      · simp [hV]; omega
  unfold toldV qres
  by_cases h : intR s V = true
  · rw [if_pos h, if_pos (e.1 h)]
  · rw [if_neg h, if_neg (fun k => h (e.2 k))]
/-- ref01.MulDiv is what fix.MulDiv and fix.MulDivUp are. -/
theorem mdV_q {a b c : Int} (up : Bool) (hc : 0 < c) : mdV a b c up = qres (mdv up a b c) := by
  obtain ⟨h0, h1⟩ := md_sgn (S := a * b) hc up
  unfold mdV
  rw [if_neg (by omega), told_q _ _ h0, h1]
  rfl
theorem ref_MulDiv {a b c : Int} {up : Bool} {h : AHeap} (hg : Good h) (ha : I64 a) (hb : I64 b) (hc : 0 < c ∧ c ≤ 9223372036854775807) :
    W CP 64 [.int .i64 a, .int .i64 b, .int .i64 c, .bool up] h = some (qres (mdv up a b c), h, []) := by
  rw [MulDiv_c hg ha.1 ha.2 hb.1 hb.2 (by omega) hc.2, mdV_q up hc.1]
theorem ref_Near {t : Int} (h : AHeap) : W CP 54 [.int .i64 t] h = some (.int .i64 (bro t), h, []) := by
  refine W_val (m := M54) (fun _ => rfl) rfl rfl rfl ?_ h
  unfold bro clamp
  by_cases c1 : t < 0
  · simp (maxDischargeDepth := 9) -implicitDefEqProofs only [push_cast, simprocAttr, M54, c1]
  · by_cases c2 : 4611686018427387904 < t
    · simp (maxDischargeDepth := 9) -implicitDefEqProofs only [push_cast, simprocAttr, M54, c1, c2]
    · simp (maxDischargeDepth := 9) -implicitDefEqProofs only [push_cast, simprocAttr, M54, c1, c2]
/-- What ref19.part answers. -/
def partV (up : Bool) (n c : Int) : Int := if n ≤ 0 then 0 else if I64 (mdv up n 1000000000 c) then bro (mdv up n 1000000000 c) else 4611686018427387904
theorem mdv_pos {up : Bool} {a b c : Int} (hc : 0 < c) (h : 0 ≤ a * b) : 0 ≤ mdv up a b c := by
  have h0 := Int.ediv_nonneg h (Int.le_of_lt hc)
  unfold mdv
  cases up
  · exact h0
  · rw [neg_div hc]; simp; split <;> omega
theorem ref_part {n c : Int} {up : Bool} (hn : I64 n) (hc : 0 < c ∧ c ≤ 9223372036854775807) (h : AHeap) : W CP 53 [.int .i64 n, .int .i64 c, .bool up] h = some (.int .i64 (partV up n c), h, []) := by
  refine W_val (m := M53) (fun _ => rfl) rfl rfl rfl ?_ h
  have em := ref_MulDiv (up := up) gl_good hn (show I64 1000000000 from ⟨by decide, by decide⟩) hc
  unfold partV
  by_cases c1 : n ≤ 0
  · rw [if_pos c1]
    simp (maxDischargeDepth := 9) -implicitDefEqProofs only [push_cast, simprocAttr, M53, c1]
  rw [if_neg c1]
  have hv0 := mdv_pos (up := up) hc.1 (show 0 ≤ n * 1000000000 by omega)
  obtain ⟨v, hv⟩ : ∃ v, mdv up n 1000000000 c = v := ⟨_, rfl⟩
  rw [hv] at em hv0 ⊢
  unfold qres at em
  by_cases hi : I64 v
  · rw [if_pos hi]
    rw [if_pos hi] at em
    by_cases c2 : 4611686018427387904 < v
    · have e : bro v = 4611686018427387904 := by unfold bro clamp; rw [if_neg (by omega), if_pos c2]
      rw [e]
      simp (maxDischargeDepth := 9) -implicitDefEqProofs only [push_cast, simprocAttr, M53, c1, em, c2]
    · rw [bro_id hv0 (by omega)]
      simp (maxDischargeDepth := 9) -implicitDefEqProofs only [push_cast, simprocAttr, M53, c1, em, c2]
  · rw [if_neg hi]
    rw [if_neg hi] at em
    simp (maxDischargeDepth := 9) -implicitDefEqProofs only [push_cast, simprocAttr, M53, c1, em]
theorem part_up {t f x : Int} (h1 : 1 ≤ t) (h4 : f ≤ 500000) : partV true (bro x + t + 1) (1000000000 - f) = upV t f x := by
  have := bro_in x
  unfold partV upV
  rw [if_neg (by omega)]
theorem part_down {t f x : Int} (h1 : 1 ≤ t) (h2 : t ≤ 1000000000) (h3 : 0 ≤ f) (h4 : f ≤ 500000) : partV false (bro x - t - 1) (1000000000 + f) = downV t f x := by
  obtain ⟨b1, b2⟩ := bro_in x
  unfold partV downV
  obtain ⟨y, hy⟩ : ∃ y, bro x = y := ⟨_, rfl⟩
  rw [hy] at b1 b2 ⊢
  by_cases c : y - t - 1 ≤ 0
  · rw [if_pos c]
    have : mdv false (y - t - 1) 1000000000 (1000000000 + f) ≤ 0 := by
      unfold mdv
      simp only [Bool.false_eq_true, if_false]
      have := Int.ediv_le_ediv (a := (y - t - 1) * 1000000000) (b := 0) (c := 1000000000 + f) (by omega) (by omega)
      simpa using this
    unfold bro clamp
    split
    · rfl
    · split <;> omega
  · rw [if_neg c, if_pos]
    unfold mdv
    simp only [Bool.false_eq_true, if_false]
    constructor
    · exact Int.le_ediv_of_mul_le (by omega) (by omega)
    · have := Int.ediv_lt_of_lt_mul (a := (y - t - 1) * 1000000000) (b := 9223372036854775808) (c := 1000000000 + f) (by omega) (by omega)
      omega
def RulR (h : AHeap) (p : Nat) (t f : Int) : Prop := h[p]? = some ⟨.tip false, .ints .i64 [t, f]⟩ ∧ p < h.length ∧ 1 ≤ t ∧ t ≤ 1000000000 ∧ 0 ≤ f ∧ f ≤ 500000
theorem RulR.app {h : AHeap} {p : Nat} {t f : Int} (r : RulR h p t f) (js : AHeap) : RulR (h ++ js) p t f := by
  obtain ⟨h1, h2, h3⟩ := r
  exact ⟨by rw [List.getElem?_append_left h2]; exact h1, by simp; omega, h3⟩
theorem ref_Up {h : AHeap} {p : Nat} {t f x : Int} (hg : Good h) (r : RulR h p t f) : W CP 22 [.ptr p 0, .int .i64 x] h = some (.int .i64 (upV t f x), h, []) := by
  obtain ⟨h1, h2, h3, h4, h5, h6⟩ := r
  have h2' : ¬ h.length ≤ p := by omega
  rw [← part_up h3 h6]
  have ebx := fun g => ref_Near (t := x) g
  obtain ⟨b1, b2⟩ := bro_in x
  obtain ⟨y, hy⟩ : ∃ y, bro x = y := ⟨_, rfl⟩
  rw [hy] at ebx b1 b2 ⊢
  have w1 : IntKind.i64.wrap (y + t) = y + t := wr_i64 _ (by omega) (by omega)
  have w2 : IntKind.i64.wrap (y + t + 1) = y + t + 1 := wr_i64 _ (by omega) (by omega)
  have w3 : IntKind.i64.wrap (1000000000 - f) = 1000000000 - f := wr_i64 _ (by omega) (by omega)
  have em := fun g => ref_part (n := y + t + 1) (c := 1000000000 - f) (up := true) ⟨by omega, by omega⟩ ⟨by omega, by omega⟩ g
  refine W_quiet0 (m := M22) rfl rfl (by simp [AV.lts, AV.lt]) rfl rfl hg ?_
  simp (maxDischargeDepth := 9) -implicitDefEqProofs only [push_cast, simprocAttr, M22, h1, h2, h2', ebx, w1, w2, w3, em]
theorem ref_Down {h : AHeap} {p : Nat} {t f x : Int} (hg : Good h) (r : RulR h p t f) : W CP 23 [.ptr p 0, .int .i64 x] h = some (.int .i64 (downV t f x), h, []) := by
  obtain ⟨h1, h2, h3, h4, h5, h6⟩ := r
  have h2' : ¬ h.length ≤ p := by omega
  rw [← part_down h3 h4 h5 h6]
  have ebx := fun g => ref_Near (t := x) g
  obtain ⟨b1, b2⟩ := bro_in x
  obtain ⟨y, hy⟩ : ∃ y, bro x = y := ⟨_, rfl⟩
  rw [hy] at ebx b1 b2 ⊢
  have w1 : IntKind.i64.wrap (y - t) = y - t := wr_i64 _ (by omega) (by omega)
  have w2 : IntKind.i64.wrap (y - t - 1) = y - t - 1 := wr_i64 _ (by omega) (by omega)
  have w3 : IntKind.i64.wrap (1000000000 + f) = 1000000000 + f := wr_i64 _ (by omega) (by omega)
  have em := fun g => ref_part (n := y - t - 1) (c := 1000000000 + f) (up := false) ⟨by omega, by omega⟩ ⟨by omega, by omega⟩ g
  refine W_quiet0 (m := M23) rfl rfl (by simp [AV.lts, AV.lt]) rfl rfl hg ?_
  simp (maxDischargeDepth := 9) -implicitDefEqProofs only [push_cast, simprocAttr, M23, h1, h2, h2', ebx, w1, w2, w3, em]
theorem ref_is {h : AHeap} {q : Nat} {l : List Int} (hg : Good h) (hq : h[q]? = some ⟨.tip false, .ints .i64 l⟩) (hl : l.length < 1000) : W CP 51 [.sl q 0 l.length l.length] h = some (.bool (l.all okT), h, []) := by
  have hql := (List.getElem?_eq_some_iff.1 hq).1
  refine W_quietP (m := M51) rfl rfl (by simp [AV.lts, AV.lt]) rfl rfl hg ?_
  simp (maxDischargeDepth := 9) -implicitDefEqProofs only [push_cast, simprocAttr, M51]
  refine wp_kRes (wp_kSeq (wp_kBlock ?_))
  refine wp_loop (fun k a h' ws => ∃ i : Nat, k = l.length - i ∧ i ≤ l.length ∧ (l.take i).all okT = true ∧ a = [(0, .sl q 0 l.length l.length), (3, .int .i64 (i : Int))] ∧ h' = h ∧ ws = []) l.length ?_ ?_
  · refine ⟨0, by omega, by omega, rfl, ?_, rfl, rfl⟩
    simp (maxDischargeDepth := 9) -implicitDefEqProofs only [push_cast, simprocAttr]; try rfl
  · rintro k aa h' ws ⟨i, rfl, hi, hall, rfl, rfl, rfl⟩
    have v1 : IntKind.i64.wrap ((i : Int) + 1) = (i : Int) + 1 := wr_i64 _ (by omega) (by omega)
    by_cases hlt : i < l.length
    · have hlt' : (i : Int) < (l.length : Int) := by omega
      obtain ⟨x, hx⟩ : ∃ x, l[i]? = some x := ⟨_, List.getElem?_eq_getElem hlt⟩
      have htk : l.take (i + 1) = l.take i ++ [x] := by rw [List.take_add_one, hx]; rfl
      by_cases hok : 0 ≤ x ∧ x ≤ 4611686018427387904
      · have x1 : ¬ x < 0 := by omega
        have x2 : ¬ 4611686018427387904 < x := by omega
        simp (maxDischargeDepth := 9) -implicitDefEqProofs only [push_cast, simprocAttr, hlt, hlt', v1, hq, hx, x1, x2]
        refine loop_next (l.length - (i + 1)) (by omega) ⟨i + 1, rfl, by omega, ?_, ?_, rfl, rfl⟩
        · rw [htk, List.all_append, hall]
          simp [okT, hok.1, hok.2]
        · simp (maxDischargeDepth := 9) -implicitDefEqProofs only [push_cast, simprocAttr]; try simp
      · have hf : l.all okT = false := by
          rw [← Bool.not_eq_true, List.all_eq_true]
          intro hh
          have := hh x (List.mem_of_getElem? hx)
          simp only [okT, decide_eq_true_eq] at this
          exact hok this
        rw [hf]
        by_cases x1 : x < 0
        · simp (maxDischargeDepth := 9) -implicitDefEqProofs only [push_cast, simprocAttr, hlt, hlt', v1, hq, hx, x1]
          exact quiet_0
        · have x2 : 4611686018427387904 < x := by omega
          simp (maxDischargeDepth := 9) -implicitDefEqProofs only [push_cast, simprocAttr, hlt, hlt', v1, hq, hx, x1, x2]
          exact quiet_0
    · have hi2 : i = l.length := by omega
      subst hi2
      rw [List.take_length] at hall
      have hnl : ¬ (l.length : Int) < (l.length : Int) := by omega
      simp (maxDischargeDepth := 9) -implicitDefEqProofs only [push_cast, simprocAttr, hall]
      exact quiet_0
theorem ref_May {a l u : Int} (h : AHeap) : W CP 42 [spA a l u] h = some (.bool (mayS a l u), h, []) := by
  have et := ref_is (h := CP.gl ++ [⟨.tip false, .ints .i64 [a, l, u]⟩, ⟨.tip false, .ints .i64 [a, l, u]⟩]) (q := CP.gl.length + 1) (l := [a, l, u]) (by rfl) (by rfl) (by simp)
  simp only [List.length_cons, List.length_nil, Nat.reduceAdd] at et
  have e3 : ([a, l, u].all okT) = (okT a && okT l && okT u) := by simp [Bool.and_assoc]
  rw [e3] at et
  refine W_val (m := M42) (fun _ => rfl) rfl rfl rfl ?_ h
  unfold mayS
  cases hb : (okT a && okT l && okT u) with
  | false =>
    rw [hb] at et
    simp (maxDischargeDepth := 9) -implicitDefEqProofs only [push_cast, simprocAttr, M42, et]
  | true =>
    rw [hb] at et
    by_cases c : l ≤ u
    · simp (maxDischargeDepth := 9) -implicitDefEqProofs only [push_cast, simprocAttr, M42, et, c]
    · simp (maxDischargeDepth := 9) -implicitDefEqProofs only [push_cast, simprocAttr, M42, et, c]
theorem ref_Mid {a l u : Int} (h : AHeap) : W CP 43 [spA a l u] h = some (.int .i64 (midS a l u), h, []) := by
  have em := fun g => ref_May (a := a) (l := l) (u := u) g
  refine W_val (m := M43) (fun _ => rfl) rfl rfl rfl ?_ h
  unfold midS
  cases hb : mayS a l u with
  | false =>
    rw [hb] at em
    simp (maxDischargeDepth := 9) -implicitDefEqProofs only [push_cast, simprocAttr, M43, em]
    try rfl
  | true =>
    rw [hb] at em
    have hm := mayS_iff.1 hb
    have e1 : (u - l).tdiv 2 = (u - l) / 2 := Int.tdiv_eq_ediv_of_nonneg (by omega)
    obtain ⟨d, hd⟩ : ∃ d, (u - l) / 2 = d := ⟨_, rfl⟩
    have w1 : IntKind.i64.wrap (u - l) = u - l := wr_i64 _ (by omega) (by omega)
    have w2 : IntKind.i64.wrap d = d := wr_i64 _ (by omega) (by omega)
    have w3 : IntKind.i64.wrap (l + d) = l + d := wr_i64 _ (by omega) (by omega)
    rw [hd] at e1 ⊢
    simp (maxDischargeDepth := 9) -implicitDefEqProofs only [push_cast, simprocAttr, M43, em, w1, e1, w2, w3]
    try rfl
theorem ref_Meet {a l u a' l' u' : Int} (h : AHeap) : W CP 41 [spA a l u, spA a' l' u'] h = some (if meetB a l u a' l' u' then .tup [spA a (mx l l') (mn u u'), .bool true] else .tup [spA 0 0 0, .bool false], h, []) := by
  have em := fun g => ref_May (a := a) (l := l) (u := u) g
  have en := fun g => ref_May (a := a') (l := l') (u := u') g
  refine W_val (m := M41) (fun _ => rfl) rfl rfl (by split <;> rfl) ?_ h
  unfold meetB
  cases h1 : mayS a l u with
  | false =>
    rw [h1] at em
    simp (maxDischargeDepth := 9) -implicitDefEqProofs only [push_cast, simprocAttr, M41, em]
  | true =>
    rw [h1] at em
    have m1 := (mayS_iff.1 h1).2
    cases h2 : mayS a' l' u' with
    | false =>
      rw [h2] at en
      simp (maxDischargeDepth := 9) -implicitDefEqProofs only [push_cast, simprocAttr, M41, em, en]
    | true =>
      rw [h2] at en
      have m2 := (mayS_iff.1 h2).2
      by_cases h3 : a = a'
      · subst h3
        by_cases h4 : u < l'
        · have h5 : ¬ mx l l' ≤ mn u u' := by unfold mx mn; split <;> split <;> omega
          simp (maxDischargeDepth := 9) -implicitDefEqProofs only [push_cast, simprocAttr, M41, em, en, h4, h5]
        · by_cases h6 : u' < l
          · have h5 : ¬ mx l l' ≤ mn u u' := by unfold mx mn; split <;> split <;> omega
            simp (maxDischargeDepth := 9) -implicitDefEqProofs only [push_cast, simprocAttr, M41, em, en, h4, h5, h6]
          · have h5 : mx l l' ≤ mn u u' := by unfold mx mn; split <;> split <;> omega
            have e1 : decide (mx l l' ≤ mn u u') = true := decide_eq_true h5
            rw [e1]
            unfold mx mn
            by_cases h7 : l < l'
            · by_cases h8 : u' < u
              · simp (maxDischargeDepth := 9) -implicitDefEqProofs only [push_cast, simprocAttr, M41, em, en, h4, h6, h7, h8]
              · simp (maxDischargeDepth := 9) -implicitDefEqProofs only [push_cast, simprocAttr, M41, em, en, h4, h6, h7, h8]
            · by_cases h8 : u' < u
              · simp (maxDischargeDepth := 9) -implicitDefEqProofs only [push_cast, simprocAttr, M41, em, en, h4, h6, h7, h8]
              · simp (maxDischargeDepth := 9) -implicitDefEqProofs only [push_cast, simprocAttr, M41, em, en, h4, h6, h7, h8]
      · simp (maxDischargeDepth := 9) -implicitDefEqProofs only [push_cast, simprocAttr, M41, em, en, h3]
end Go.Proofs.YtcpiohklljppaaaW.AI.D
